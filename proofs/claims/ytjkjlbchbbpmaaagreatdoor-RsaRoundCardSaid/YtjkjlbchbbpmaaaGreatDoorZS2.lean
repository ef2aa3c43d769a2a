/- SCheck SOpen, in one text. -/
import Derived.Test.YtjkjlbchbbpmaaaGreatDoorZK1
import Derived.Test.YtjkjlbchbbpmaaaGreatDoorZH0
import Derived.Deep.QuietTactic
import Derived.BigQuiet
/- rsa.Check: the walk. -/
namespace Go.Proofs.YtjkjlbchbbpmaaaGreatDoor
open Go.RowKit

theorem and_one_u8 (x : Nat) (h : x < 256) : bits BinOp.and IntKind.u8 (x : Int) 1 = ((x % 2 : Nat) : Int) := by
  have h1 : ∀ y : Nat, y < 256 → bits BinOp.and IntKind.u8 (y : Int) 1 = ((y % 2 : Nat) : Int) := by decide +kernel
  exact h1 x h

set_option maxRecDepth 100000 in
theorem odd_any (s : ByteArray) (w : World) (hs : s.size ≤ 140737488351232) :
    Calls Tryz.prog 24 #[.string s] w fun e w' => e = .returned (.bool (decide (oddS s))) ∧ w = w' := by
  obtain ⟨N, hN⟩ : ∃ N, N = s.size := ⟨_, rfl⟩
  by_cases h0 : N = 0
  · have hb : decide (oddS s) = false := decide_eq_false (oddS_empty (by omega))
    have he : s.toList.isEmpty = true := by rw [Lib.toList_data, List.isEmpty_iff]; exact List.eq_nil_of_length_eq_zero (by rw [list_size]; omega)
    rw [hb]
    clear hb hN h0
    go_enter Tryz.func24, Tryz.ntmps24
    go_wp2
    go_ret
    exact ⟨rfl, rfl⟩
  · have hp : 0 < s.size := by omega
    have he : s.toList.isEmpty = false := by
      rw [Lib.toList_data, List.isEmpty_eq_false_iff]
      intro e
      have := list_size s
      rw [e] at this; simp at this; omega
    obtain ⟨c, hc⟩ : ∃ c : Nat, c = (s[0]'hp).toNat := ⟨_, rfl⟩
    obtain ⟨d, hd⟩ : ∃ d : Nat, d = (s[s.size - 1]'(by omega)).toNat := ⟨_, rfl⟩
    have hcl : c < 256 := by rw [hc]; exact UInt8.toNat_lt _
    have hdl : d < 256 := by rw [hd]; exact UInt8.toNat_lt _
    have hix : ∀ W : World, (Instr.index 9 (.string s) (.int .i64 0)).run Tryz.prog W = .ok (.int .u8 (c : Nat)) W := fun W => by
      simp [Instr.index, asIntOf, run_underlying Tryz.underlying9, getElem?_pos s 0 hp, hc]
    have hjx : ∀ W : World, (Instr.index 9 (.string s) (.int .i64 ((N : Int) - 1))).run Tryz.prog W = .ok (.int .u8 (d : Nat)) W := fun W => by
      have e : ((s.size : Int) - 1).toNat = s.size - 1 := by omega
      have h1 : (1 : Int) ≤ (s.size : Int) := by omega
      simp [Instr.index, asIntOf, run_underlying Tryz.underlying9, hN, e, getElem?_pos s (s.size - 1) (by omega), hd, h1]
    have hand : bits BinOp.and IntKind.u8 (d : Int) 1 = ((d % 2 : Nat) : Int) := and_one_u8 d hdl
    by_cases h1 : c = 0
    · have hb : decide (oddS s) = false := decide_eq_false (oddS_zero hp (by omega))
      rw [hb]
      subst h1
      clear hb hc hd hand hjx
      go_enter Tryz.func24, Tryz.ntmps24
      go_wp2
      go_ret
      exact ⟨rfl, rfl⟩
    · have hb := oddS_last hp (by omega)
      rw [← hd] at hb
      have hz : ((c : Int) != 0) = true := by simpa using h1
      by_cases h2 : d % 2 = 1
      · have hb2 : decide (oddS s) = true := decide_eq_true (hb.2 h2)
        rw [hb2]
        rw [h2] at hand
        have hsz : (s.size : Int) = (N : Int) := by rw [hN]
        clear hb hb2 hc hd hN h2
        go_enter Tryz.func24, Tryz.ntmps24
        go_wp2
        go_ret
        exact ⟨rfl, rfl⟩
      · have hb2 : decide (oddS s) = false := decide_eq_false (fun h => h2 (hb.1 h))
        rw [hb2]
        rw [show d % 2 = 0 by omega] at hand
        have hsz : (s.size : Int) = (N : Int) := by rw [hN]
        clear hb hb2 hc hd hN h2
        go_enter Tryz.func24, Tryz.ntmps24
        go_wp2
        go_ret
        exact ⟨rfl, rfl⟩

set_option maxRecDepth 100000 in
set_option maxHeartbeats 3200000 in
theorem check_core (n e : ByteArray) (bn be : Nat) (on oe : Bool) (w : World) (hbn : bn ≤ 4611686018427387904) (hbe : be ≤ 4611686018427387904)
    (hBn : ∀ w : World, Calls Tryz.prog 25 #[.string n] w fun r w' => r = .returned (.int .i64 ((bn : Nat) : Int)) ∧ ∃ q, w' = w.drewN q)
    (hBe : ∀ w : World, Calls Tryz.prog 25 #[.string e] w fun r w' => r = .returned (.int .i64 ((be : Nat) : Int)) ∧ ∃ q, w' = w.drewN q)
    (hOn : ∀ w : World, Calls Tryz.prog 24 #[.string n] w fun r w' => r = .returned (.bool on) ∧ w = w')
    (hOe : ∀ w : World, Calls Tryz.prog 24 #[.string e] w fun r w' => r = .returned (.bool oe) ∧ w = w') :
    Calls Tryz.prog 9 #[.agg #[.string n, .string e]] w fun r w' => r = .returned (.int .i64 (if on = true ∧ oe = true ∧ 512 ≤ bn ∧ bn ≤ 2048 ∧ 2 ≤ be ∧ be ≤ 32 then 0 else 40)) ∧ Below w.heap.size w w' := by
  obtain ⟨R, hR⟩ : ∃ R : Int, R = (if on = true ∧ oe = true ∧ 512 ≤ bn ∧ bn ≤ 2048 ∧ 2 ≤ be ∧ be ≤ 32 then 0 else 40) := ⟨_, rfl⟩
  rw [← hR]
  have HBn := Lib.hid hBn; have HBe := Lib.hid hBe; have HOn := Lib.hid hOn; have HOe := Lib.hid hOe
  clear hBn hBe hOn hOe
  have hcase : (on = false ∧ R = 40) ∨ (on = true ∧ oe = false ∧ R = 40) ∨ (on = true ∧ oe = true ∧ bn < 512 ∧ R = 40) ∨ (on = true ∧ oe = true ∧ 512 ≤ bn ∧ 2048 < bn ∧ R = 40) ∨ (on = true ∧ oe = true ∧ 512 ≤ bn ∧ bn ≤ 2048 ∧ be < 2 ∧ R = 40) ∨ (on = true ∧ oe = true ∧ 512 ≤ bn ∧ bn ≤ 2048 ∧ 2 ≤ be ∧ 32 < be ∧ R = 40) ∨ (on = true ∧ oe = true ∧ 512 ≤ bn ∧ bn ≤ 2048 ∧ 2 ≤ be ∧ be ≤ 32 ∧ R = 0) := by
    rw [hR]
    cases on
    · left; simp
    · cases oe
      · right; left; simp
      · by_cases h1 : 512 ≤ bn
        · by_cases h2 : bn ≤ 2048
          · by_cases h3 : 2 ≤ be
            · by_cases h4 : be ≤ 32
              · right; right; right; right; right; right; simp [h1, h2, h3, h4]
              · right; right; right; right; right; left; simp [h1, h2, h3, h4]; omega
            · right; right; right; right; left; simp [h1, h2, h3]; omega
          · right; right; right; left; simp [h1, h2]; omega
        · right; right; left; simp [h1]; omega
  clear hR
  have hR0 := Rws.start w
  rcases hcase with ⟨rfl, rfl⟩ | ⟨rfl, rfl, rfl⟩ | ⟨rfl, rfl, h1, rfl⟩ | ⟨rfl, rfl, h1, h2, rfl⟩ | ⟨rfl, rfl, h1, h2, h3, rfl⟩ | ⟨rfl, rfl, h1, h2, h3, h4, rfl⟩ | ⟨rfl, rfl, h1, h2, h3, h4, rfl⟩
  all_goals
    go_enter Tryz.func9, Tryz.ntmps9
    go_upto_region 2 with (refine wpList_box_rws rfl _ _ (by rfl) (by assumption) _ rfl ?_; intro g w1 hR)
    have c0 : w1.cell? ⟨g, 0, none⟩ = some (.string n) := hR.cellAt (List.Mem.head _) 0 rfl
    have c1 : w1.cell? ⟨g, 1, none⟩ = some (.string e) := hR.cellAt (List.Mem.head _) 1 rfl
    go_quiet ((first | (go_at_call_of 25 (Value.string n); exact quiet_drawn (HBn.out _)) | (go_at_call_of 25 (Value.string e); exact quiet_drawn (HBe.out _))))
    go_wp2_with (first | (go_at_call_of 24 (Value.string n); refine (HOn.out _).mono ?_; rintro r w' ⟨rfl, rfl⟩) | (go_at_call_of 24 (Value.string e); refine (HOe.out _).mono ?_; rintro r w' ⟨rfl, rfl⟩))
    go_ret
    exact ⟨rfl, below_drewN hR.below _⟩

theorem check_any (n e : ByteArray) (w : World) (hn : n.size ≤ 140737488351232) (he : e.size ≤ 140737488351232) :
    Calls Tryz.prog 9 #[.agg #[.string n, .string e]] w fun r w' => r = .returned (.int .i64 (if KeyOk n e then 0 else 40)) ∧ Below w.heap.size w w' := by
  have hb : ∀ s : ByteArray, s.size ≤ 140737488351232 → bitsS s ≤ 4611686018427387904 := fun s hs => by
    have h1 : nv s < 256 ^ s.size := nv_size s
    have h2 : bitsS s ≤ 8 * s.size := (Dg.len_le_iff (by omega) _ _).2 (by
      rw [Nat.pow_mul]; exact h1)
    omega
  have h := check_core n e (bitsS n) (bitsS e) (decide (oddS n)) (decide (oddS e)) w (hb n hn) (hb e he) (fun w => Bits_any n w (by omega)) (fun w => Bits_any e w (by omega)) (fun w => odd_any n w hn) (fun w => odd_any e w he)
  have e1 : (if decide (oddS n) = true ∧ decide (oddS e) = true ∧ 512 ≤ bitsS n ∧ bitsS n ≤ 2048 ∧ 2 ≤ bitsS e ∧ bitsS e ≤ 32 then (0 : Int) else 40) = if KeyOk n e then 0 else 40 := by
    simp only [decide_eq_true_eq]; rfl
  rw [e1] at h
  exact h
end Go.Proofs.YtjkjlbchbbpmaaaGreatDoor
/- rsa.Open: the walk. -/
namespace Go.Proofs.YtjkjlbchbbpmaaaGreatDoor
open Go.RowKit

/-- A number in so many bytes. -/
def padS (v n : Nat) : List UInt8 := List.replicate (n - Dg.len 256 v) 0 ++ fm v
/-- What Open answers. -/
def OpenR (n e sig : ByteArray) : List UInt8 × Int :=
  if ¬ KeyOk n e then ([], 40) else if sig.size ≠ n.size ∨ nv n ≤ nv sig then ([], 41) else (padS (nv sig ^ nv e % nv n) n.size, 0)

theorem size_of_bits {s : ByteArray} (h : oddS s) {k : Nat} (hb : bitsS s ≤ 8 * k) : s.size ≤ k := by
  have h1 : (fm (nv s)).length = s.size := by rw [h.1, list_size]
  rw [fm_length] at h1
  rw [← h1]
  refine (Dg.len_le_iff (by omega) _ _).2 ?_
  have h2 := (Dg.len_le_iff (B := 2) (by omega) (nv s) (8 * k)).1 hb
  rw [Nat.pow_mul] at h2
  exact h2

set_option maxRecDepth 100000 in
set_option maxHeartbeats 3200000 in
theorem open_any (n e sig : ByteArray) (w : World) (hn : n.size ≤ 140737488351232) (he : e.size ≤ 140737488351232) :
    Calls Tryz.prog 12 #[.agg #[.string n, .string e], .string sig] w fun r w' => r = ret2 (OpenR n e sig).1 (OpenR n e sig).2 ∧ Below w.heap.size w w' := by
  have hck := fun w => check_any n e w hn he
  have hR0 := Rws.start w
  by_cases hk : KeyOk n e
  · have hn2 : n.size ≤ 256 := size_of_bits hk.1 (by have := hk.2.2.2.1; omega)
    have he2 : e.size ≤ 4 := size_of_bits hk.2.1 (by have := hk.2.2.2.2.2; omega)
    have hpos : 0 < nv n := by have := hk.1.2; omega
    have hck0 : ∀ w : World, Calls Tryz.prog 9 #[.agg #[.string n, .string e]] w fun r w' => r = .returned (.int .i64 0) ∧ Below w.heap.size w w' := fun w => by
      have := hck w
      rwa [if_pos hk] at this
    have hO : OpenR n e sig = if sig.size ≠ n.size ∨ nv n ≤ nv sig then ([], 41) else (padS (nv sig ^ nv e % nv n) n.size, 0) := by
      unfold OpenR; rw [if_neg (fun h => h hk)]
    clear hck hk
    have HC := Lib.hid hck0; have HO := Lib.hid hO
    clear hck0 hO
    by_cases hz : sig.size = n.size
    · obtain ⟨N, hN⟩ : ∃ N, N = n.size := ⟨_, rfl⟩
      have hcmp := fun w => Cmp_any sig n w
      have hz2 : (sig.size : Int) = (N : Int) := by omega
      have hz3 : (n.size : Int) = (N : Int) := by omega
      by_cases hlt : nv sig < nv n
      · have hc : cmpN (nv sig) (nv n) = -1 := cmpN_lt hlt
        rw [hc] at hcmp
        have hO2 : OpenR n e sig = (padS (nv sig ^ nv e % nv n) N, 0) := by rw [HO.out, if_neg (by omega), hN]
        obtain ⟨v, hv⟩ : ∃ v, v = nv sig ^ nv e % nv n := ⟨_, rfl⟩
        have hpow := fun w => pow_ok sig e n (nv sig) (nv e) (nv n) w (by omega) (by omega) (by omega) rfl rfl rfl hpos
        rw [← hv] at hpow hO2
        have hvl : v < nv n := by rw [hv]; exact Nat.mod_lt _ hpos
        have hlen : Dg.len 256 v ≤ N := by
          refine (Dg.len_le_iff (by omega) _ _).2 (Nat.lt_of_lt_of_le hvl ?_)
          rw [hN]
          exact Nat.le_of_lt (nv_size n)
        have hpad := fun w => Pad_any (tx v) (N : Int) w (by rw [tx_size]; omega)
        have hP : PadR (tx v) (N : Int) = (padS v N, 0) := by
          unfold PadR
          rw [nv_tx, if_neg (by omega)]; rfl
        rw [hP] at hpad
        have HP := Lib.hid hpad; have HW := Lib.hid hpow; have HM := Lib.hid hcmp; have HO2 := Lib.hid hO2
        clear hpad hpow hcmp hO2 hP hv hc hvl hN HO hz hlt
        go_enter Tryz.func12, Tryz.ntmps12
        go_upto_region 1 with (refine wpList_box_rws rfl _ _ (by rfl) (by assumption) _ rfl ?_; intro g w1 hR)
        have c0 : w1.cell? ⟨g, 0, none⟩ = some (.string n) := hR.cellAt (List.Mem.head _) 0 rfl
        have c1 : w1.cell? ⟨g, 1, none⟩ = some (.string e) := hR.cellAt (List.Mem.head _) 1 rfl
        have hkl : ∀ w : World, Rws w.heap.size w w1 [(g, #[.string n, .string e], 23)] → True := fun _ _ => trivial
        clear hkl
        go_wp2_with (refine wpList_load_rws rfl _ _ (by rfl) (by assumption) _ rfl #[.string n, .string e] _ (by repeat (first | exact List.Mem.head _ | refine List.Mem.tail _ ?_)) _ Tryz.underlying23 rfl (by kernel_rfl) ?_)
        refine (HC.out _).mono ?_
        rintro r w2 ⟨rfl, hb2⟩
        have hR := hR.call hb2
        have c0 : w2.cell? ⟨g, 0, none⟩ = some (.string n) := hR.cellAt (List.Mem.head _) 0 rfl
        have c1 : w2.cell? ⟨g, 1, none⟩ = some (.string e) := hR.cellAt (List.Mem.head _) 1 rfl
        clear hb2
        go_wp2_with fail
        refine (HM.out _).mono ?_
        rintro r w3 ⟨rfl, q, rfl⟩
        go_wp2_with fail
        refine (HW.out _).mono ?_
        rintro r w4 ⟨rfl, hb4⟩
        have hR4 := (hR.call (below_drewN (Below.refl _ _) q)).call hb4
        have c0 : w4.cell? ⟨g, 0, none⟩ = some (.string n) := hR4.cellAt (List.Mem.head _) 0 rfl
        clear hb4
        unfold okT
        go_wp2_with fail
        refine (HP.out _).mono ?_
        rintro r w5 ⟨rfl, hb5⟩
        have hres := (hR4.call hb5).below
        unfold ret2
        go_wp2_with fail
        go_ret2
        exact ⟨by rw [HO2.out]; rfl, hres⟩
      · have hge : nv n ≤ nv sig := by omega
        have hO2 : OpenR n e sig = ([], 41) := by rw [HO.out, if_pos (Or.inr hge)]
        have hc : ∃ c : Int, cmpN (nv sig) (nv n) = c ∧ 0 ≤ c ∧ c ≤ 1 := by
          rcases cmpN_three (nv sig) (nv n) with ⟨h, _⟩ | ⟨_, h⟩ | ⟨_, h⟩
          · omega
          · exact ⟨0, h, by omega, by omega⟩
          · exact ⟨1, h, by omega, by omega⟩
        obtain ⟨c, hc, hc0, hc1⟩ := hc
        rw [hc] at hcmp
        have HM := Lib.hid hcmp; have HO2 := Lib.hid hO2
        clear hcmp hO2 hc hN HO hz hlt hge
        go_enter Tryz.func12, Tryz.ntmps12
        go_upto_region 1 with (refine wpList_box_rws rfl _ _ (by rfl) (by assumption) _ rfl ?_; intro g w1 hR)
        go_wp2_with (refine wpList_load_rws rfl _ _ (by rfl) (by assumption) _ rfl #[.string n, .string e] _ (by repeat (first | exact List.Mem.head _ | refine List.Mem.tail _ ?_)) _ Tryz.underlying23 rfl (by kernel_rfl) ?_)
        refine (HC.out _).mono ?_
        rintro r w2 ⟨rfl, hb2⟩
        have hR := hR.call hb2
        have c0 : w2.cell? ⟨g, 0, none⟩ = some (.string n) := hR.cellAt (List.Mem.head _) 0 rfl
        clear hb2
        go_wp2_with fail
        refine (HM.out _).mono ?_
        rintro r w3 ⟨rfl, q, rfl⟩
        have hres := below_drewN hR.below q
        go_wp2_with fail
        go_ret2
        exact ⟨by rw [HO2.out]; rfl, hres⟩
    · have hO2 : OpenR n e sig = ([], 41) := by rw [HO.out, if_pos (Or.inl hz)]
      have HO2 := Lib.hid hO2
      have hz2 : ((sig.size : Int) != (n.size : Int)) = true := by rw [bne_iff_ne]; omega
      clear HO hO2 hz
      go_enter Tryz.func12, Tryz.ntmps12
      go_upto_region 1 with (refine wpList_box_rws rfl _ _ (by rfl) (by assumption) _ rfl ?_; intro g w1 hR)
      go_wp2_with (refine wpList_load_rws rfl _ _ (by rfl) (by assumption) _ rfl #[.string n, .string e] _ (by repeat (first | exact List.Mem.head _ | refine List.Mem.tail _ ?_)) _ Tryz.underlying23 rfl (by kernel_rfl) ?_)
      refine (HC.out _).mono ?_
      rintro r w2 ⟨rfl, hb2⟩
      have hR := hR.call hb2
      have c0 : w2.cell? ⟨g, 0, none⟩ = some (.string n) := hR.cellAt (List.Mem.head _) 0 rfl
      clear hb2
      go_wp2_with fail
      go_ret2
      exact ⟨by rw [HO2.out]; rfl, hR.below⟩
  · have hck0 : ∀ w : World, Calls Tryz.prog 9 #[.agg #[.string n, .string e]] w fun r w' => r = .returned (.int .i64 40) ∧ Below w.heap.size w w' := fun w => by
      have := hck w
      rwa [if_neg hk] at this
    have hO2 : OpenR n e sig = ([], 40) := if_pos hk
    have HC := Lib.hid hck0; have HO2 := Lib.hid hO2
    clear hck0 hO2 hck hk
    go_enter Tryz.func12, Tryz.ntmps12
    go_upto_region 1 with (refine wpList_box_rws rfl _ _ (by rfl) (by assumption) _ rfl ?_; intro g w1 hR)
    go_wp2_with (refine wpList_load_rws rfl _ _ (by rfl) (by assumption) _ rfl #[.string n, .string e] _ (by repeat (first | exact List.Mem.head _ | refine List.Mem.tail _ ?_)) _ Tryz.underlying23 rfl (by kernel_rfl) ?_)
    refine (HC.out _).mono ?_
    rintro r w2 ⟨rfl, hb2⟩
    have hR := hR.call hb2
    clear hb2
    go_wp2_with fail
    go_ret2
    exact ⟨by rw [HO2.out]; rfl, hR.below⟩
end Go.Proofs.YtjkjlbchbbpmaaaGreatDoor
