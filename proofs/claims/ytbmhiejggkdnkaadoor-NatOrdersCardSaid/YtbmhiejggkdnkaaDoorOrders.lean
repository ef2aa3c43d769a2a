/- NatOrders: the walk. -/
import Derived.Test.YtbmhiejggkdnkaaDoorLawKit2
namespace Go.Proofs.YtbmhiejggkdnkaaDoor
open Go.RowKit

set_option maxRecDepth 100000 in
set_option maxHeartbeats 6400000 in
theorem orders_lt (a b c : ByteArray) (A B C : Nat) (w : World) (hA : nv a = A) (hB : nv b = B) (hC : nv c = C) (hl : a.size + b.size + c.size ≤ 500) (h : A < B) :
    Calls Tryd.prog 7 #[.string a, .string b, .string c] w fun e w' => e = .returned (.bool true) ∧ Below w.heap.size w w' := by
  have HA := Lib.hid hA; have HB := Lib.hid hB; have HC := Lib.hid hC; clear hA hB hC
  have hcm : cmpN A B = -1 := cmpN_lt h
  have hcm2 : cmpN B A = 1 := cmpN_gt h
  have HCM := Lib.hid hcm; have HCM2 := Lib.hid hcm2; clear hcm hcm2
  have HNE := Lib.hid (tx_ne (A := A) (B := B) (by omega))
  go_enter Tryd.func7, Tryd.ntmps7
  go_wp2_with fail
  refine (fixed_any _).mono ?_
  rintro e w1 ⟨rfl, hb1⟩
  go_wp2_with fail
  refine (cmp_okB a b A B _ HA.out HB.out).mono ?_
  rintro e w2 ⟨rfl, hb2⟩
  have hb2 := hb1.trans (hb2.mono hb1.size); clear hb1
  rw [HCM.out]
  go_wp2_with fail
  refine (sub_no a b A B _ (by omega) (by omega) HA.out HB.out h).mono ?_
  rintro e w3 ⟨rfl, hb3⟩
  have hb3 := hb2.trans (hb3.mono hb2.size); clear hb2
  unfold noT
  go_wp2_with fail
  refine (cmp_okB b a B A _ HB.out HA.out).mono ?_
  rintro e w4 ⟨rfl, hb4⟩
  have hb4 := hb3.trans (hb4.mono hb3.size); clear hb3
  rw [HCM2.out]
  go_wp2_with fail
  refine (trim_ok a A _ HA.out).mono ?_
  rintro e wt ⟨rfl, rfl⟩
  go_wp2_with fail
  have hne := HNE.out
  refine (trim_ok b B _ HB.out).mono ?_
  rintro e wt ⟨rfl, rfl⟩
  go_wp2_with fail
  clear hne
  rcases cmpN_three B C with ⟨h1, h2⟩ | ⟨h1, h2⟩ | ⟨h1, h2⟩
  · have H2 := Lib.hid h2; clear h2
    refine (cmp_okB b c B C _ HB.out HC.out).mono ?_
    rintro e w5 ⟨rfl, hb5⟩
    have hb5 := hb4.trans (hb5.mono hb4.size); clear hb4
    rw [H2.out]
    go_wp2_with fail
    have h3 : cmpN A C = -1 := cmpN_lt (by omega)
    have H3 := Lib.hid h3; clear h3
    refine (cmp_okB a c A C _ HA.out HC.out).mono ?_
    rintro e w6 ⟨rfl, hb6⟩
    have hb6 := hb5.trans (hb6.mono hb5.size); clear hb5
    rw [H3.out]
    go_wp2_with fail
    refine (add_ok a c A C _ (by omega) (by omega) HA.out HC.out).mono ?_
    rintro e w7 ⟨rfl, hb7⟩
    have hb7 := hb6.trans (hb7.mono hb6.size); clear hb6
    unfold okT
    go_wp2_with fail
    refine (add_ok b c B C _ (by omega) (by omega) HB.out HC.out).mono ?_
    rintro e w8 ⟨rfl, hb8⟩
    have hb8 := hb7.trans (hb8.mono hb7.size); clear hb7
    unfold okT
    go_wp2_with fail
    have h4 : cmpN (A + C) (B + C) = -1 := cmpN_lt (by omega)
    have H4 := Lib.hid h4; clear h4
    refine (cmp_okB _ _ (A + C) (B + C) _ (nv_tx _) (nv_tx _)).mono ?_
    rintro e w9 ⟨rfl, hb9⟩
    have hb9 := hb8.trans (hb9.mono hb8.size); clear hb8
    rw [H4.out]
    go_wp2_with fail
    go_ret
    exact ⟨rfl, hb9⟩
  · have H2 := Lib.hid h2; clear h2
    have h1a : B ≤ C := by omega
    have h1b : C ≤ B := by omega
    clear h1
    refine (cmp_okB b c B C _ HB.out HC.out).mono ?_
    rintro e w5 ⟨rfl, hb5⟩
    have hb5 := hb4.trans (hb5.mono hb4.size); clear hb4
    rw [H2.out]
    go_wp2_with fail
    have h3 : cmpN A C = -1 := cmpN_lt (by omega)
    have H3 := Lib.hid h3; clear h3
    refine (cmp_okB a c A C _ HA.out HC.out).mono ?_
    rintro e w6 ⟨rfl, hb6⟩
    have hb6 := hb5.trans (hb6.mono hb5.size); clear hb5
    rw [H3.out]
    go_wp2_with fail
    refine (add_ok a c A C _ (by omega) (by omega) HA.out HC.out).mono ?_
    rintro e w7 ⟨rfl, hb7⟩
    have hb7 := hb6.trans (hb7.mono hb6.size); clear hb6
    unfold okT
    go_wp2_with fail
    refine (add_ok b c B C _ (by omega) (by omega) HB.out HC.out).mono ?_
    rintro e w8 ⟨rfl, hb8⟩
    have hb8 := hb7.trans (hb8.mono hb7.size); clear hb7
    unfold okT
    go_wp2_with fail
    have h4 : cmpN (A + C) (B + C) = -1 := cmpN_lt (by omega)
    have H4 := Lib.hid h4; clear h4
    refine (cmp_okB _ _ (A + C) (B + C) _ (nv_tx _) (nv_tx _)).mono ?_
    rintro e w9 ⟨rfl, hb9⟩
    have hb9 := hb8.trans (hb9.mono hb8.size); clear hb8
    rw [H4.out]
    go_wp2_with fail
    go_ret
    exact ⟨rfl, hb9⟩
  · have H2 := Lib.hid h2; clear h2
    refine (cmp_okB b c B C _ HB.out HC.out).mono ?_
    rintro e w5 ⟨rfl, hb5⟩
    have hb5 := hb4.trans (hb5.mono hb4.size); clear hb4
    rw [H2.out]
    go_wp2_with fail
    refine (add_ok a c A C _ (by omega) (by omega) HA.out HC.out).mono ?_
    rintro e w6 ⟨rfl, hb6⟩
    have hb6 := hb5.trans (hb6.mono hb5.size); clear hb5
    unfold okT
    go_wp2_with fail
    refine (add_ok b c B C _ (by omega) (by omega) HB.out HC.out).mono ?_
    rintro e w7 ⟨rfl, hb7⟩
    have hb7 := hb6.trans (hb7.mono hb6.size); clear hb6
    unfold okT
    go_wp2_with fail
    have h4 : cmpN (A + C) (B + C) = -1 := cmpN_lt (by omega)
    have H4 := Lib.hid h4; clear h4
    refine (cmp_okB _ _ (A + C) (B + C) _ (nv_tx _) (nv_tx _)).mono ?_
    rintro e w8 ⟨rfl, hb8⟩
    have hb8 := hb7.trans (hb8.mono hb7.size); clear hb7
    rw [H4.out]
    go_wp2_with fail
    go_ret
    exact ⟨rfl, hb8⟩
set_option maxRecDepth 100000 in
set_option maxHeartbeats 6400000 in
theorem orders_eq (a b c : ByteArray) (A B C : Nat) (w : World) (hA : nv a = A) (hB : nv b = B) (hC : nv c = C) (hl : a.size + b.size + c.size ≤ 500) (h : A = B) :
    Calls Tryd.prog 7 #[.string a, .string b, .string c] w fun e w' => e = .returned (.bool true) ∧ Below w.heap.size w w' := by
  subst h
  have HA := Lib.hid hA; have HB := Lib.hid hB; have HC := Lib.hid hC; clear hA hB hC
  have hcm := cmpN_eq A; have hcm2 := cmpN_eq A
  have HCM := Lib.hid hcm; have HCM2 := Lib.hid hcm2; clear hcm hcm2
  go_enter Tryd.func7, Tryd.ntmps7
  go_wp2_with fail
  refine (fixed_any _).mono ?_
  rintro e w1 ⟨rfl, hb1⟩
  go_wp2_with fail
  refine (cmp_okB a b A A _ HA.out HB.out).mono ?_
  rintro e w2 ⟨rfl, hb2⟩
  have hb2 := hb1.trans (hb2.mono hb1.size); clear hb1
  rw [HCM.out]
  go_wp2_with fail
  refine (sub_ok a b A A _ (by omega) (by omega) HA.out HB.out (by omega)).mono ?_
  rintro e w3 ⟨rfl, hb3⟩
  have hb3 := hb2.trans (hb3.mono hb2.size); clear hb2
  unfold okT
  rw [Nat.sub_self, tx_zero]
  go_wp2_with fail
  refine (cmp_okB b a A A _ HB.out HA.out).mono ?_
  rintro e w4 ⟨rfl, hb4⟩
  have hb4 := hb3.trans (hb4.mono hb3.size); clear hb3
  rw [HCM2.out]
  go_wp2_with fail
  refine (trim_ok a A _ HA.out).mono ?_
  rintro e wt ⟨rfl, rfl⟩
  go_wp2_with fail
  refine (trim_ok b A _ HB.out).mono ?_
  rintro e wt ⟨rfl, rfl⟩
  go_wp2_with fail
  rcases cmpN_three A C with ⟨h1, h2⟩ | ⟨h1, h2⟩ | ⟨h1, h2⟩
  · have H2 := Lib.hid h2; clear h2
    refine (cmp_okB b c A C _ HB.out HC.out).mono ?_
    rintro e w5 ⟨rfl, hb5⟩
    have hb5 := hb4.trans (hb5.mono hb4.size); clear hb4
    rw [H2.out]
    go_wp2_with fail
    have h3 : cmpN A C = -1 := cmpN_lt (by omega)
    have H3 := Lib.hid h3; clear h3
    refine (cmp_okB a c A C _ HA.out HC.out).mono ?_
    rintro e w6 ⟨rfl, hb6⟩
    have hb6 := hb5.trans (hb6.mono hb5.size); clear hb5
    rw [H3.out]
    go_wp2_with fail
    refine (add_ok a c A C _ (by omega) (by omega) HA.out HC.out).mono ?_
    rintro e w7 ⟨rfl, hb7⟩
    have hb7 := hb6.trans (hb7.mono hb6.size); clear hb6
    unfold okT
    go_wp2_with fail
    refine (add_ok b c A C _ (by omega) (by omega) HB.out HC.out).mono ?_
    rintro e w8 ⟨rfl, hb8⟩
    have hb8 := hb7.trans (hb8.mono hb7.size); clear hb7
    unfold okT
    go_wp2_with fail
    have h4 : cmpN (A + C) (A + C) = 0 := cmpN_eq _
    have H4 := Lib.hid h4; clear h4
    refine (cmp_okB _ _ (A + C) (A + C) _ (nv_tx _) (nv_tx _)).mono ?_
    rintro e w9 ⟨rfl, hb9⟩
    have hb9 := hb8.trans (hb9.mono hb8.size); clear hb8
    rw [H4.out]
    go_wp2_with fail
    go_ret
    exact ⟨rfl, hb9⟩
  · have H2 := Lib.hid h2; clear h2
    have h1a : A ≤ C := by omega
    have h1b : C ≤ A := by omega
    clear h1
    refine (cmp_okB b c A C _ HB.out HC.out).mono ?_
    rintro e w5 ⟨rfl, hb5⟩
    have hb5 := hb4.trans (hb5.mono hb4.size); clear hb4
    rw [H2.out]
    go_wp2_with fail
    have h3 : cmpN A C = 0 := by rw [show C = A from by omega]; exact cmpN_eq A
    have H3 := Lib.hid h3; clear h3
    refine (cmp_okB a c A C _ HA.out HC.out).mono ?_
    rintro e w6 ⟨rfl, hb6⟩
    have hb6 := hb5.trans (hb6.mono hb5.size); clear hb5
    rw [H3.out]
    go_wp2_with fail
    refine (add_ok a c A C _ (by omega) (by omega) HA.out HC.out).mono ?_
    rintro e w7 ⟨rfl, hb7⟩
    have hb7 := hb6.trans (hb7.mono hb6.size); clear hb6
    unfold okT
    go_wp2_with fail
    refine (add_ok b c A C _ (by omega) (by omega) HB.out HC.out).mono ?_
    rintro e w8 ⟨rfl, hb8⟩
    have hb8 := hb7.trans (hb8.mono hb7.size); clear hb7
    unfold okT
    go_wp2_with fail
    have h4 : cmpN (A + C) (A + C) = 0 := cmpN_eq _
    have H4 := Lib.hid h4; clear h4
    refine (cmp_okB _ _ (A + C) (A + C) _ (nv_tx _) (nv_tx _)).mono ?_
    rintro e w9 ⟨rfl, hb9⟩
    have hb9 := hb8.trans (hb9.mono hb8.size); clear hb8
    rw [H4.out]
    go_wp2_with fail
    go_ret
    exact ⟨rfl, hb9⟩
  · have H2 := Lib.hid h2; clear h2
    refine (cmp_okB b c A C _ HB.out HC.out).mono ?_
    rintro e w5 ⟨rfl, hb5⟩
    have hb5 := hb4.trans (hb5.mono hb4.size); clear hb4
    rw [H2.out]
    go_wp2_with fail
    refine (add_ok a c A C _ (by omega) (by omega) HA.out HC.out).mono ?_
    rintro e w6 ⟨rfl, hb6⟩
    have hb6 := hb5.trans (hb6.mono hb5.size); clear hb5
    unfold okT
    go_wp2_with fail
    refine (add_ok b c A C _ (by omega) (by omega) HB.out HC.out).mono ?_
    rintro e w7 ⟨rfl, hb7⟩
    have hb7 := hb6.trans (hb7.mono hb6.size); clear hb6
    unfold okT
    go_wp2_with fail
    have h4 : cmpN (A + C) (A + C) = 0 := cmpN_eq _
    have H4 := Lib.hid h4; clear h4
    refine (cmp_okB _ _ (A + C) (A + C) _ (nv_tx _) (nv_tx _)).mono ?_
    rintro e w8 ⟨rfl, hb8⟩
    have hb8 := hb7.trans (hb8.mono hb7.size); clear hb7
    rw [H4.out]
    go_wp2_with fail
    go_ret
    exact ⟨rfl, hb8⟩
set_option maxRecDepth 100000 in
set_option maxHeartbeats 6400000 in
theorem orders_gt (a b c : ByteArray) (A B C : Nat) (w : World) (hA : nv a = A) (hB : nv b = B) (hC : nv c = C) (hl : a.size + b.size + c.size ≤ 500) (h : B < A) :
    Calls Tryd.prog 7 #[.string a, .string b, .string c] w fun e w' => e = .returned (.bool true) ∧ Below w.heap.size w w' := by
  have HA := Lib.hid hA; have HB := Lib.hid hB; have HC := Lib.hid hC; clear hA hB hC
  have hcm : cmpN A B = 1 := cmpN_gt h
  have hcm2 : cmpN B A = -1 := cmpN_lt h
  have HCM := Lib.hid hcm; have HCM2 := Lib.hid hcm2; clear hcm hcm2
  have HNE := Lib.hid (tx_ne (A := A) (B := B) (by omega))
  go_enter Tryd.func7, Tryd.ntmps7
  go_wp2_with fail
  refine (fixed_any _).mono ?_
  rintro e w1 ⟨rfl, hb1⟩
  go_wp2_with fail
  refine (cmp_okB a b A B _ HA.out HB.out).mono ?_
  rintro e w2 ⟨rfl, hb2⟩
  have hb2 := hb1.trans (hb2.mono hb1.size); clear hb1
  rw [HCM.out]
  go_wp2_with fail
  refine (sub_ok a b A B _ (by omega) (by omega) HA.out HB.out (by omega)).mono ?_
  rintro e w3 ⟨rfl, hb3⟩
  have hb3 := hb2.trans (hb3.mono hb2.size); clear hb2
  unfold okT
  go_wp2_with fail
  refine (cmp_okB b a B A _ HB.out HA.out).mono ?_
  rintro e w4 ⟨rfl, hb4⟩
  have hb4 := hb3.trans (hb4.mono hb3.size); clear hb3
  rw [HCM2.out]
  go_wp2_with fail
  refine (trim_ok a A _ HA.out).mono ?_
  rintro e wt ⟨rfl, rfl⟩
  go_wp2_with fail
  have hne := HNE.out
  have hpos := tx_pos (v := A - B) (by omega)
  refine (trim_ok b B _ HB.out).mono ?_
  rintro e wt ⟨rfl, rfl⟩
  go_wp2_with fail
  clear hne
  clear hpos
  rcases cmpN_three B C with ⟨h1, h2⟩ | ⟨h1, h2⟩ | ⟨h1, h2⟩
  · have H2 := Lib.hid h2; clear h2
    refine (cmp_okB b c B C _ HB.out HC.out).mono ?_
    rintro e w5 ⟨rfl, hb5⟩
    have hb5 := hb4.trans (hb5.mono hb4.size); clear hb4
    rw [H2.out]
    go_wp2_with fail
    refine (add_ok a c A C _ (by omega) (by omega) HA.out HC.out).mono ?_
    rintro e w6 ⟨rfl, hb6⟩
    have hb6 := hb5.trans (hb6.mono hb5.size); clear hb5
    unfold okT
    go_wp2_with fail
    refine (add_ok b c B C _ (by omega) (by omega) HB.out HC.out).mono ?_
    rintro e w7 ⟨rfl, hb7⟩
    have hb7 := hb6.trans (hb7.mono hb6.size); clear hb6
    unfold okT
    go_wp2_with fail
    have h4 : cmpN (A + C) (B + C) = 1 := cmpN_gt (by omega)
    have H4 := Lib.hid h4; clear h4
    refine (cmp_okB _ _ (A + C) (B + C) _ (nv_tx _) (nv_tx _)).mono ?_
    rintro e w8 ⟨rfl, hb8⟩
    have hb8 := hb7.trans (hb8.mono hb7.size); clear hb7
    rw [H4.out]
    go_wp2_with fail
    go_ret
    exact ⟨rfl, hb8⟩
  · have H2 := Lib.hid h2; clear h2
    have h1a : B ≤ C := by omega
    have h1b : C ≤ B := by omega
    clear h1
    refine (cmp_okB b c B C _ HB.out HC.out).mono ?_
    rintro e w5 ⟨rfl, hb5⟩
    have hb5 := hb4.trans (hb5.mono hb4.size); clear hb4
    rw [H2.out]
    go_wp2_with fail
    refine (add_ok a c A C _ (by omega) (by omega) HA.out HC.out).mono ?_
    rintro e w6 ⟨rfl, hb6⟩
    have hb6 := hb5.trans (hb6.mono hb5.size); clear hb5
    unfold okT
    go_wp2_with fail
    refine (add_ok b c B C _ (by omega) (by omega) HB.out HC.out).mono ?_
    rintro e w7 ⟨rfl, hb7⟩
    have hb7 := hb6.trans (hb7.mono hb6.size); clear hb6
    unfold okT
    go_wp2_with fail
    have h4 : cmpN (A + C) (B + C) = 1 := cmpN_gt (by omega)
    have H4 := Lib.hid h4; clear h4
    refine (cmp_okB _ _ (A + C) (B + C) _ (nv_tx _) (nv_tx _)).mono ?_
    rintro e w8 ⟨rfl, hb8⟩
    have hb8 := hb7.trans (hb8.mono hb7.size); clear hb7
    rw [H4.out]
    go_wp2_with fail
    go_ret
    exact ⟨rfl, hb8⟩
  · have H2 := Lib.hid h2; clear h2
    refine (cmp_okB b c B C _ HB.out HC.out).mono ?_
    rintro e w5 ⟨rfl, hb5⟩
    have hb5 := hb4.trans (hb5.mono hb4.size); clear hb4
    rw [H2.out]
    go_wp2_with fail
    refine (add_ok a c A C _ (by omega) (by omega) HA.out HC.out).mono ?_
    rintro e w6 ⟨rfl, hb6⟩
    have hb6 := hb5.trans (hb6.mono hb5.size); clear hb5
    unfold okT
    go_wp2_with fail
    refine (add_ok b c B C _ (by omega) (by omega) HB.out HC.out).mono ?_
    rintro e w7 ⟨rfl, hb7⟩
    have hb7 := hb6.trans (hb7.mono hb6.size); clear hb6
    unfold okT
    go_wp2_with fail
    have h4 : cmpN (A + C) (B + C) = 1 := cmpN_gt (by omega)
    have H4 := Lib.hid h4; clear h4
    refine (cmp_okB _ _ (A + C) (B + C) _ (nv_tx _) (nv_tx _)).mono ?_
    rintro e w8 ⟨rfl, hb8⟩
    have hb8 := hb7.trans (hb8.mono hb7.size); clear hb7
    rw [H4.out]
    go_wp2_with fail
    go_ret
    exact ⟨rfl, hb8⟩
set_option maxRecDepth 100000 in
set_option maxHeartbeats 6400000 in
theorem law_any (a b c : ByteArray) (w : World) (ha : a.size ≤ 140737488351232) (hb : b.size ≤ 140737488351232) (hc : c.size ≤ 140737488351232) :
    Calls Tryd.prog 7 #[.string a, .string b, .string c] w fun e w' => e = .returned (.bool true) ∧ Below w.heap.size w w' := by
  by_cases hl : 500 < a.size + b.size + c.size
  · go_enter Tryd.func7, Tryd.ntmps7
    go_wp2_with fail
    refine (fixed_any _).mono ?_
    rintro e w1 ⟨rfl, hb1⟩
    go_wp2_with fail
    go_ret
    exact ⟨rfl, hb1⟩
  · rcases Nat.lt_trichotomy (nv a) (nv b) with h | h | h
    · exact orders_lt a b c _ _ _ w rfl rfl rfl (by omega) h
    · exact orders_eq a b c _ _ _ w rfl rfl rfl (by omega) h
    · exact orders_gt a b c _ _ _ w rfl rfl rfl (by omega) h
end Go.Proofs.YtbmhiejggkdnkaaDoor
