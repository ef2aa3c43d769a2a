/- der.OfOid: the walk (gen_zofoid.py). -/
import Derived.Test.YtebhiplcoioenaaGreatDoorZZOidW
import Derived.Test.YtebhiplcoioenaaGreatDoorZZSplit
import Derived.Test.YtebhiplcoioenaaGreatDoorZZWhole
import Derived.Test.YtebhiplcoioenaaGreatDoorZDC
namespace Go.Proofs.YtebhiplcoioenaaGreatDoor
open Go.RowKit

theorem and_127i (n : Nat) (hn : n < 4294967296) : bits BinOp.and IntKind.i64 (n : Int) 127 = ((n % 128 : Nat) : Int) := by
  have h1 : (BitVec.ofInt 64 (n : Int)).toNat = n := by
    rw [BitVec.ofInt_natCast, BitVec.toNat_ofNat]; exact Nat.mod_eq_of_lt (by omega)
  have h2 : (BitVec.ofInt 64 (127 : Int)).toNat = 127 := by decide
  have h3 : n &&& 127 = n % 128 := Nat.and_two_pow_sub_one_eq_mod n 7
  show IntKind.i64.wrap ((BitVec.ofInt 64 (n : Int) &&& BitVec.ofInt 64 (127 : Int)).toNat : Int) = _
  rw [BitVec.toNat_and, h1, h2, h3, IntKind.wrap_i64]
  omega
theorem or_128 (v : Nat) (hv : v < 128) : bits BinOp.or IntKind.i64 (v : Int) 128 = ((v + 128 : Nat) : Int) := by
  have key : ∀ (v : Fin 128), bits BinOp.or IntKind.i64 (v.val : Int) 128 = ((v.val + 128 : Nat) : Int) := by decide +kernel
  exact key ⟨v, hv⟩
def fstF (L : List Nat) : Nat := match L with
  | [a] => 40 * min a 3
  | _ => 0
theorem fst_nil : fstF [] = 0 := rfl
theorem oid_first (n : Nat) : oidBs [n] = [] ∧ fstF [n] = 40 * min n 3 := ⟨rfl, rfl⟩
theorem oid_next {L : List Nat} (h : L ≠ []) (n : Nat) : oidBs (L ++ [n]) = oidBs L ++ grpB (fstF L + n) ∧ fstF (L ++ [n]) = 0 := by
  match L, h with
  | [a], _ => exact ⟨by show grpB (40 * min a 3 + n) ++ (([] : List Nat).map grpB).flatten = _; simp [oidBs, fstF], rfl⟩
  | a :: b :: l, _ =>
    refine ⟨?_, rfl⟩
    show grpB (40 * min a 3 + b) ++ ((l ++ [n]).map grpB).flatten = (grpB (40 * min a 3 + b) ++ (l.map grpB).flatten) ++ grpB (0 + n)
    rw [List.map_append, List.flatten_append, Nat.zero_add, List.append_assoc]
    simp
theorem fst_le (L : List Nat) : fstF L ≤ 120 := by
  unfold fstF
  split
  · omega
  · exact Nat.zero_le _
theorem grpB_len {n : Nat} (h : n ≤ 34359738367) : (grpB n).length ≤ 5 := by
  have := grpT_le 4 (n / 128) (by omega)
  unfold grpB
  simp only [List.length_append, List.length_cons, List.length_nil]; omega
theorem grps_len : ∀ l : List Nat, (∀ n ∈ l, n ≤ 2147483647) → ((l.map grpB).flatten).length ≤ 5 * l.length
  | [], _ => Nat.le_refl _
  | n :: l, h => by
    have h1 := grpB_len (n := n) (by have := h n (List.mem_cons_self ..); omega)
    have h2 := grps_len l fun m hm => h m (List.mem_cons_of_mem _ hm)
    simp only [List.map_cons, List.flatten_cons, List.length_append, List.length_cons]; omega
theorem oidBs_len {L : List Nat} (h : ∀ n ∈ L, n ≤ 2147483647) : (oidBs L).length ≤ 5 * L.length + 5 := by
  match L with
  | [] => exact Nat.zero_le _
  | [a] => exact Nat.zero_le _
  | a :: b :: l =>
    have h1 := grpB_len (n := 40 * min a 3 + b) (by have := h b (by simp); omega)
    have h2 := grps_len l fun m hm => h m (by simp [hm])
    simp only [oidBs, List.length_append, List.length_cons]; omega
def numL (ws : List Bs) : List Nat := ws.map fun w => (wordN w).toNat
theorem numL_le {ws : List Bs} (h : ws.all wordB = true) : ∀ n ∈ numL ws, n ≤ 2147483647 := by
  intro n hn
  obtain ⟨w, hw, rfl⟩ := List.mem_map.1 hn
  have := List.all_eq_true.1 h w hw
  unfold wordB at this
  simp only [Bool.and_eq_true, decide_eq_true_eq] at this
  omega
/-- The words lie in this block. -/
def CE (ws : List Bs) (g : Nat) (w : World) : Prop := ∀ (j : Nat) x, ws[j]? = some x → w.cell? ⟨g, j, none⟩ = some (.string (bs x))
theorem CE.keep {ws : List Bs} {g : Nat} {w w' : World} (h : CE ws g w) (hs : w'.heap[g]? = w.heap[g]?) : CE ws g w' := fun j x hj => (World.cell?_of_block (w := w) (w' := w') hs).trans (h j x hj)
theorem neStr (x : UInt8) (r : Bs) : (bs (x :: r)).toList.isEmpty = false := by rw [bs_list]; rfl
set_option maxRecDepth 100000 in
set_option maxHeartbeats 16000000 in
theorem OfOid_any (s : Bs) (w : World) (hs : s.length ≤ 1048576) (hg : Gd w) : Calls Tryz.prog 18 #[.string (bs s)] w (RetDv w (ofOidS s)) := by
  have hSB := SB_eq
  have hMX := MX_eq
  have hR := Rws.start w
  have zs := bs_size s
  obtain ⟨ws, hws⟩ : ∃ ws, ws = splitW s := ⟨_, rfl⟩
  obtain ⟨hwl, hww⟩ := splitW_len s
  have hx : ofOidS s = if ws.length < 2 ∨ 65536 < s.length ∨ ws.all wordB = false then (.zero, 61) else if oidS (oidV (oidBs (numL ws))) = (s, 0) then (oidV (oidBs (numL ws)), 0) else (.zero, 61) := by rw [hws]; rfl
  have HSP : Hid (∀ u, Below w.heap.size w u → Calls Tryz.prog 45 #[.string (bs s), .string ⟨#[46]⟩] u fun e w' => ∃ g, e = .returned (.slice (some ⟨g, 0, none⟩) ws.length ws.length) ∧ (∀ (j : Nat) x, ws[j]? = some x → w'.cell? ⟨g, j, none⟩ = some (.string (bs x))) ∧ g < w'.heap.size ∧ Below u.heap.size u w') := Lib.hid fun u hu => by rw [hws]; exact split_any s (by omega) u (hg.below hu)
  rw [← hws] at hwl hww
  have HG := Lib.hid hg
  have HX := Lib.hid hx
  have HWW := Lib.hid hww
  obtain ⟨n, hn⟩ : ∃ n, n = ws.length := ⟨_, rfl⟩
  have HN := Lib.hid hn
  rw [← hn] at hwl HSP HX
  clear hws hx hg hww hn
  by_cases h2 : n < 2
  · have h2z : (n : Int) < 2 := by omega
    have HBAD : Hid (ofOidS s = (.zero, 61)) := Lib.hid (by rw [HX.out, if_pos (Or.inl h2)])
    go_enter Tryz.func18, Tryz.ntmps18
    go_upto_region 1 with (refine wpList_alloc_rws rfl _ (by rfl) (by exact hR) (dvC .zero none 0) zero_der ?_; intro g2 w1 hR)
    go_wp2_with (first
      | (go_at_call 45; refine (HSP.out _ hR.below).mono ?_; rintro e w2 ⟨gs, rfl, hcs, hgs, hb2⟩; have hR := hR.call hb2)
      | (refine wpList_store_rws rfl _ _ _ (by rfl) (by exact hR) g2 rfl (dvC .zero none 0) (by rfl) _ _ _ (by repeat (first | exact Pick.here | apply Pick.there)) (by kernel_rfl) (by kernel_rfl) (by kernel_rfl) ?_; intro w9 hR))
    have HR := Lib.hid hR
    refine bodyPost_rws2 rfl HR.out g2 rfl _ _ (List.Mem.head _) _ Tryz.underlying24 rfl (by kernel_rfl) _ rfl rfl (fun hbz => ?_)
    rw [HBAD.out]
    exact ⟨rfl, rfl, hbz⟩
  · have h2z : ¬ (n : Int) < 2 := by omega
    by_cases h3 : 65536 < s.length
    · have h3z : (65536 : Int) < (s.length : Int) := by omega
      have HBAD : Hid (ofOidS s = (.zero, 61)) := Lib.hid (by rw [HX.out, if_pos (Or.inr (Or.inl h3))])
      go_enter Tryz.func18, Tryz.ntmps18
      go_upto_region 1 with (refine wpList_alloc_rws rfl _ (by rfl) (by exact hR) (dvC .zero none 0) zero_der ?_; intro g2 w1 hR)
      go_wp2_with (first
        | (go_at_call 45; refine (HSP.out _ hR.below).mono ?_; rintro e w2 ⟨gs, rfl, hcs, hgs, hb2⟩; have hR := hR.call hb2)
        | (refine wpList_store_rws rfl _ _ _ (by rfl) (by exact hR) g2 rfl (dvC .zero none 0) (by rfl) _ _ _ (by repeat (first | exact Pick.here | apply Pick.there)) (by kernel_rfl) (by kernel_rfl) (by kernel_rfl) ?_; intro w9 hR))
      have HR := Lib.hid hR
      refine bodyPost_rws2 rfl HR.out g2 rfl _ _ (List.Mem.head _) _ Tryz.underlying24 rfl (by kernel_rfl) _ rfl rfl (fun hbz => ?_)
      rw [HBAD.out]
      exact ⟨rfl, rfl, hbz⟩
    · have h3z : ¬ (65536 : Int) < (s.length : Int) := by omega
      go_enter Tryz.func18, Tryz.ntmps18
      go_upto_region 1 with (refine wpList_alloc_rws rfl _ (by rfl) (by exact hR) (dvC .zero none 0) zero_der ?_; intro g2 w1 hR)
      go_upto_region 4 with (go_at_call 45; refine (HSP.out _ hR.below).mono ?_; rintro e w2 ⟨gs, rfl, hcs, hgs, hb2⟩; have hR := hR.call hb2)
      have HCS := Lib.hid hcs
      clear hcs hb2
      go_upto_region 7 with (first
        | (refine wQ_alloc (cs := dvC .zero none 0) rfl _ (by rfl) (by exact hR) zero_der ?_; intro g5 w3 hR hb3 hg5)
        | (refine wQ_store rfl _ _ _ (by rfl) (by exact hR) g5 rfl (pv 6 ⟨#[]⟩) (by rfl) _ _ _ (by repeat (first | exact Pick.here | apply Pick.there)) (by kernel_rfl) (by kernel_rfl) (by kernel_rfl) ?_; intro w4 hR hsm4 hsz4))
      have hne : gs ≠ g5 := by omega
      have HNE := Lib.hid hne
      have HCE : Hid (CE ws gs w4) := Lib.hid (CE.keep HCS.out (by rw [hsm4 gs hne, hb3.block gs hgs]))
      have hgs4 : gs < w4.heap.size := by rw [hsz4]; exact Nat.lt_of_lt_of_le hgs hb3.size
      clear hsm4 hsz4 hb3 hg5 hgs HCS hne
      go_loopg [6, 27] n (fun gg s6 s27 wr => ∃ (i : Nat), i ≤ n ∧ gg = n - i ∧ s27 = .int .i64 (i : Nat) ∧ s6 = .int .i64 (fstF (numL (ws.take i)) : Nat)
        ∧ Aside (Rws w.heap.size w wr [(g5, pv 6 (bs (oidBs (numL (ws.take i)))), 24), (g2, dvC .zero none 0, 24)]) ∧ Aside (CE ws gs wr ∧ gs < wr.heap.size) ∧ Aside ((ws.take i).all wordB = true))
      case atStart => exact ⟨0, Nat.zero_le _, rfl, rfl, rfl, hR, ⟨HCE.out, hgs4⟩, (show (ws.take 0).all wordB = true from rfl)⟩
      case round =>
        obtain ⟨i, hil, rfl, rfl, rfl, HRA, HCW, HAL⟩ := hrel
        by_cases hlt : i < n
        · have hltz : (i : Int) < (n : Int) := by omega
          obtain ⟨x, hx⟩ : ∃ x, ws[i]? = some x := ⟨ws[i]'(by have := HN.out; omega), List.getElem?_eq_getElem _⟩
          have fx := HCW.out.1 i x hx
          have hxm : x ∈ ws := List.mem_of_getElem? hx
          have hxl : x.length ≤ 65536 := by have := HWW.out x hxm; omega
          have zx := bs_size x
          have HTK : Hid (ws.take (i + 1) = ws.take i ++ [x]) := Lib.hid (by
            simp [List.take_add_one, hx])
          have hR := HRA.out
          cases hb : wordB x with
          | false =>
            have HBAD : Hid (ofOidS s = (.zero, 61)) := Lib.hid (by
              rw [HX.out, if_pos (Or.inr (Or.inr ?_))]
              cases hall : ws.all wordB with
              | false => rfl
              | true => rw [List.all_eq_true.1 hall x hxm] at hb; cases hb)
            cases x with
            | nil =>
              have hze : (bs ([] : Bs)).toList.isEmpty = true := by rw [bs_list]; rfl
              clear hx hb
              go_wp2_with (refine wpList_store_rws rfl _ _ _ (by rfl) (by exact hR) g2 rfl (dvC .zero none 0) (by rfl) _ _ _ (by repeat (first | exact Pick.here | apply Pick.there)) (by kernel_rfl) (by kernel_rfl) (by kernel_rfl) ?_; intro w9 hR)
              have HR := Lib.hid hR
              refine bodyPost_rws2 rfl HR.out g2 rfl _ _ (List.Mem.head _) _ Tryz.underlying24 rfl (by kernel_rfl) _ rfl rfl (fun hbz => ?_)
              rw [HBAD.out]
              exact ⟨rfl, rfl, hbz⟩
            | cons a r =>
              have hze := neStr a r
              have hlen : (a :: r).length = r.length + 1 := rfl
              by_cases h10 : (a :: r).length ≤ 10
              · have h10z : ((r.length : Int) + 1) ≤ 10 := by simp only [List.length_cons] at h10; omega
                obtain ⟨N, hN⟩ : ∃ N, N = digS (a :: r) := ⟨_, rfl⟩
                have hNb : N < 0 ∨ 2147483647 < N := by
                  unfold wordB wordN at hb
                  rw [if_pos ⟨by simp, h10⟩, ← hN] at hb
                  simp only [Bool.and_eq_false_iff, decide_eq_false_iff_not] at hb
                  omega
                have HDG : Hid (∀ u, Calls Tryz.prog 46 #[.string (bs (a :: r))] u fun e w' => e = .returned (.int .i64 N) ∧ w' = u) := Lib.hid fun u => by rw [hN]; exact digits_any (a :: r) u (by omega)
                clear hx hb hN
                by_cases hN0 : N < 0
                · go_wp2_with (first
                    | (go_at_call 46; refine (HDG.out _).mono ?_; rintro e w7 ⟨rfl, rfl⟩)
                    | (refine wpList_store_rws rfl _ _ _ (by rfl) (by exact hR) g2 rfl (dvC .zero none 0) (by rfl) _ _ _ (by repeat (first | exact Pick.here | apply Pick.there)) (by kernel_rfl) (by kernel_rfl) (by kernel_rfl) ?_; intro w9 hR))
                  have HR := Lib.hid hR
                  refine bodyPost_rws2 rfl HR.out g2 rfl _ _ (List.Mem.head _) _ Tryz.underlying24 rfl (by kernel_rfl) _ rfl rfl (fun hbz => ?_)
                  rw [HBAD.out]
                  exact ⟨rfl, rfl, hbz⟩
                · have hN1 : 2147483647 < N := by omega
                  go_wp2_with (first
                    | (go_at_call 46; refine (HDG.out _).mono ?_; rintro e w7 ⟨rfl, rfl⟩)
                    | (refine wpList_store_rws rfl _ _ _ (by rfl) (by exact hR) g2 rfl (dvC .zero none 0) (by rfl) _ _ _ (by repeat (first | exact Pick.here | apply Pick.there)) (by kernel_rfl) (by kernel_rfl) (by kernel_rfl) ?_; intro w9 hR))
                  have HR := Lib.hid hR
                  refine bodyPost_rws2 rfl HR.out g2 rfl _ _ (List.Mem.head _) _ Tryz.underlying24 rfl (by kernel_rfl) _ rfl rfl (fun hbz => ?_)
                  rw [HBAD.out]
                  exact ⟨rfl, rfl, hbz⟩
              · have h10z : ¬ ((r.length : Int) + 1) ≤ 10 := by simp only [List.length_cons] at h10; omega
                clear hx hb
                go_wp2_with (refine wpList_store_rws rfl _ _ _ (by rfl) (by exact hR) g2 rfl (dvC .zero none 0) (by rfl) _ _ _ (by repeat (first | exact Pick.here | apply Pick.there)) (by kernel_rfl) (by kernel_rfl) (by kernel_rfl) ?_; intro w9 hR)
                have HR := Lib.hid hR
                refine bodyPost_rws2 rfl HR.out g2 rfl _ _ (List.Mem.head _) _ Tryz.underlying24 rfl (by kernel_rfl) _ rfl rfl (fun hbz => ?_)
                rw [HBAD.out]
                exact ⟨rfl, rfl, hbz⟩
          | true =>
            obtain ⟨m, hm, hm1, hm2, hm3⟩ : ∃ m : Nat, digS x = (m : Int) ∧ m ≤ 2147483647 ∧ wordN x = (m : Int) ∧ x.length ≤ 10 := by
              have hb2 := hb
              unfold wordB at hb2
              simp only [Bool.and_eq_true, decide_eq_true_eq] at hb2
              have h4 : x ≠ [] ∧ x.length ≤ 10 := by
                have h5 := hb2.1
                unfold wordN at h5
                by_cases h6 : x ≠ [] ∧ x.length ≤ 10
                · exact h6
                · rw [if_neg h6] at h5; exact absurd h5 (by decide)
              have h7 : wordN x = digS x := by unfold wordN; rw [if_pos h4]
              rw [h7] at hb2
              exact ⟨(digS x).toNat, by omega, by omega, by rw [h7]; omega, h4.2⟩
            obtain ⟨a, r, rfl⟩ : ∃ a r, x = a :: r := by
              cases x with
              | nil => exact absurd hm2 (by unfold wordN; simp)
              | cons a r => exact ⟨a, r, rfl⟩
            have hze := neStr a r
            have hlen : (a :: r).length = r.length + 1 := rfl
            have h10z : ((r.length : Int) + 1) ≤ 10 := by simp only [List.length_cons] at hm3; omega
            have HDG : Hid (∀ u, Calls Tryz.prog 46 #[.string (bs (a :: r))] u fun e w' => e = .returned (.int .i64 (m : Nat)) ∧ w' = u) := Lib.hid fun u => by rw [← hm]; exact digits_any (a :: r) u (by omega)
            obtain ⟨L, hL⟩ : ∃ L, L = numL (ws.take i) := ⟨_, rfl⟩
            have HNX : Hid (numL (ws.take (i + 1)) = L ++ [m]) := Lib.hid (by
              rw [HTK.out, hL]
              unfold numL
              rw [List.map_append, List.map_cons, List.map_nil, hm2]
              rfl)
            have HAN : Hid ((ws.take (i + 1)).all wordB = true) := Lib.hid (by
              have h0 := HAL.out
              rw [HTK.out, List.all_append, h0]
              simp [hb])
            have hLl : L.length = i := by rw [hL]; unfold numL; rw [List.length_map, List.length_take]; have := HN.out; omega
            have hLb : (oidBs L).length ≤ 5 * i + 5 := by
              have := oidBs_len (L := L) (by rw [hL]; exact numL_le HAL.out)
              omega
            have hf := fst_le L
            rw [← hL] at hR ⊢
            clear hx hxm hxl hb hL hm hm2
            by_cases hi0 : i = 0
            · obtain rfl : L = [] := List.eq_nil_of_length_eq_zero (by omega)
              subst hi0
              go_wp2_with (go_at_call 46; refine (HDG.out _).mono ?_; rintro e w7 ⟨rfl, rfl⟩)
              go_roundg (n - 1)
              case measure => omega
              case rel =>
                refine ⟨1, by omega, rfl, rfl, ?_, ?_, HCW.out, HAN.out⟩
                · rw [HNX.out]; show Value.int _ _ = Value.int .i64 ((40 * min m 3 : Nat) : Int); exact congrArg _ (by omega)
                · show Rws _ _ _ _; rw [HNX.out]; exact hR
            · obtain ⟨T, hT⟩ : ∃ T, T = fstF L + m := ⟨_, rfl⟩
              have hTl : T ≤ 2147483767 := by omega
              obtain ⟨h4, h5⟩ := oid_next (L := L) (by intro e; rw [e] at hLl; exact hi0 hLl.symm) m
              rw [← HNX.out, ← hT] at h4
              rw [← HNX.out] at h5
              have H4 := Lib.hid h4
              have H5 := Lib.hid h5
              obtain ⟨f0, hf0⟩ : ∃ f0, f0 = fstF L := ⟨_, rfl⟩
              obtain ⟨B0, hB0⟩ : ∃ B0, B0 = oidBs L := ⟨_, rfl⟩
              rw [← hf0] at hT hf ⊢
              rw [← hB0] at H4 hR hLb
              clear hf0 hB0 h4 h5
              have hiz : ((i : Int) == 0) = false := by simpa using hi0
              clear hi0
              go_upto_region 18 with (go_at_call 46; refine (HDG.out _).mono ?_; rintro e w7 ⟨rfl, rfl⟩)
              rw [show (m : Int) + (f0 : Int) = (T : Int) by omega]
              clear hT
              obtain ⟨R0, hR0⟩ : ∃ R0, R0 = T % 128 := ⟨_, rfl⟩
              have hR0l : R0 < 128 := by omega
              have hand : bits BinOp.and IntKind.i64 (T : Int) 127 = (R0 : Int) := by rw [hR0]; exact and_127i T (by omega)
              have HGT : Hid (grpB T = grpT (T / 128) ++ [UInt8.ofNat R0]) := Lib.hid (by rw [hR0]; rfl)
              have hcv : ∀ u : World, (convert 68 9 (.slice (some ⟨u.heap.size, 0, none⟩) 1 1)).run Tryz.prog (u.alloc (.cells #[.int .u8 (R0 : Int)] 5)) = .ok (.string (bs [UInt8.ofNat R0])) (u.alloc (.cells #[.int .u8 (R0 : Int)] 5)) := fun u => conv_l [UInt8.ofNat R0] _ (by
                unfold ByC
                simp only [List.map_cons, List.map_nil]
                rw [u8_lt _ (by omega)]) u (by simp)
              obtain ⟨T7, hT7⟩ : ∃ T7, T7 = T / 128 := ⟨_, rfl⟩
              have hT7z : (T : Int) / 128 = (T7 : Int) := by omega
              rw [← hT7] at HGT
              have hT7l : T7 ≤ 16777217 := by omega
              clear hR0 hT7
              go_upto_region 20 with fail
              clear hand hcv hT7z
              go_loopg [9, 10] (T7 + 1) (fun gg s9 s10 wq => ∃ (q : Nat) (G : Bs), gg = q + 1 ∧ s9 = .int .i64 (q : Nat) ∧ s10 = .string (bs G) ∧ q ≤ 16777217 ∧ Aside (grpB T = grpT q ++ G) ∧ Aside (Rws w.heap.size w wq [(g5, pv 6 (bs B0), 24), (g2, dvC .zero none 0, 24)]) ∧ Aside (CE ws gs wq ∧ gs < wq.heap.size))
              case atStart => exact ⟨T7, _, rfl, rfl, rfl, hT7l, HGT.out, hR.alloc0 _, ⟨HCW.out.1.keep (Below.heap_alloc _ _ _ HCW.out.2), Nat.lt_of_lt_of_le HCW.out.2 (by simp)⟩⟩
              case round =>
                obtain ⟨q, G, rfl, rfl, rfl, hql, HGQ, HRQ, HCQ⟩ := hrel
                have hGl : G.length ≤ 5 := by
                  have h1 := grpB_len (n := T) (by omega)
                  rw [HGQ.out, List.length_append] at h1
                  omega
                have zg := bs_size G
                by_cases hq0 : 0 < q
                · have hq0z : (0 : Int) < (q : Int) := by omega
                  obtain ⟨R1, hR1⟩ : ∃ R1, R1 = q % 128 := ⟨_, rfl⟩
                  have hR1l : R1 < 128 := by omega
                  have hand : bits BinOp.and IntKind.i64 (q : Int) 127 = (R1 : Int) := by rw [hR1]; exact and_127i q (by omega)
                  obtain ⟨V, hV⟩ : ∃ V, V = R1 + 128 := ⟨_, rfl⟩
                  have hVl : V < 256 := by omega
                  have hor : bits BinOp.or IntKind.i64 (R1 : Int) 128 = (V : Int) := by rw [hV]; exact or_128 R1 hR1l
                  obtain ⟨q7, hq7⟩ : ∃ q7, q7 = q / 128 := ⟨_, rfl⟩
                  have hq7z : (q : Int) / 128 = (q7 : Int) := by omega
                  have HGN : Hid (grpB T = grpT q7 ++ ([UInt8.ofNat V] ++ G)) := Lib.hid (by
                    rw [HGQ.out, grpT_pos (by omega), hq7, hV, hR1, Nat.add_comm (q % 128) 128, List.append_assoc])
                  have HMS : Hid (q7 + 1 < q + 1 ∧ q7 ≤ 16777217) := Lib.hid ⟨by omega, by omega⟩
                  have hcv : ∀ u : World, (convert 68 9 (.slice (some ⟨u.heap.size, 0, none⟩) 1 1)).run Tryz.prog (u.alloc (.cells #[.int .u8 (V : Int)] 5)) = .ok (.string (bs [UInt8.ofNat V])) (u.alloc (.cells #[.int .u8 (V : Int)] 5)) := fun u => conv_l [UInt8.ofNat V] _ (by
                    unfold ByC
                    simp only [List.map_cons, List.map_nil]
                    rw [u8_lt _ (by omega)]) u (by simp)
                  have zv := bs_size [UInt8.ofNat V]
                  have hv1 : [UInt8.ofNat V].length = 1 := rfl
                  clear hR1 hV hq7
                  go_wp2_with fail
                  rw [bs_app2]
                  go_roundg (q7 + 1)
                  case measure => exact HMS.out.1
                  case rel => exact ⟨q7, _, rfl, rfl, rfl, HMS.out.2, HGN.out, HRQ.out.alloc0 _, ⟨HCQ.out.1.keep (Below.heap_alloc _ _ _ HCQ.out.2), Nat.lt_of_lt_of_le HCQ.out.2 (by simp)⟩⟩
                · obtain rfl : q = 0 := by omega
                  have HGE : Hid (grpB T = G) := Lib.hid (by rw [HGQ.out, grpT_zero]; rfl)
                  have hR := HRQ.out
                  have f3 := hR.cellAt (g := g5) (List.Mem.head _) 3 rfl
                  have zb := bs_size B0
                  clear hq0
                  go_wp2_with (refine wS_storec (g := g5) (k := 3) (new := pv 6 (bs B0 ++ bs G)) rfl (by rfl) (by exact hR) rfl rfl (by repeat (first | exact Pick.here | apply Pick.there)) rfl (by kernel_rfl) (by exact (show 3 < 5 by decide)) (by rfl) rfl ?_; intro w8 hR hsm8 hsz8)
                  rw [bs_app2] at hR
                  go_roundg (n - (i + 1))
                  case measure => omega
                  case rel =>
                    refine ⟨i + 1, by omega, rfl, by go_num, ?_, ?_, ⟨HCQ.out.1.keep (hsm8 gs HNE.out), by rw [hsz8]; exact HCQ.out.2⟩, HAN.out⟩
                    · rw [H5.out]; rfl
                    · show Rws _ _ _ _
                      rw [H4.out, HGE.out]; exact hR
        · have hltz : ¬ (i : Int) < (n : Int) := by omega
          have HALL : Hid (ws.all wordB = true) := Lib.hid (by
            have h0 := HAL.out
            rw [List.take_of_length_le (by have := HN.out; omega)] at h0
            exact h0)
          obtain ⟨B0, hB0⟩ : ∃ B0, B0 = oidBs (numL ws) := ⟨_, rfl⟩
          have hB0l : B0.length ≤ 1000000 := by
            have h1 := oidBs_len (numL_le HALL.out)
            have h2 : (numL ws).length = n := by unfold numL; rw [List.length_map, HN.out]
            rw [hB0]; omega
          have hR := HRA.out
          rw [List.take_of_length_le (by have := HN.out; omega), ← hB0] at hR
          obtain ⟨P, hP⟩ : ∃ P, P = oidS (oidV B0) := ⟨_, rfl⟩
          have HX2 : Hid (ofOidS s = if P = (s, 0) then (oidV B0, 0) else (.zero, 61)) := Lib.hid (by
            rw [HX.out, if_neg (by intro h; rcases h with h | h | h; exact h2 h; exact h3 h; rw [HALL.out] at h; cases h), ← hB0, hP])
          have HOI : Hid (∀ u, Below w.heap.size w u → Calls Tryz.prog 16 #[.agg (pv 6 (bs B0))] u fun e w' => e = .returned (.tuple #[.string (bs P.1), .int .i64 P.2]) ∧ Below u.heap.size u w') := Lib.hid fun u hu => by
            rw [hP]
            exact Oid_any (oidV B0) none 0 u (by show B0.length ≤ SB; omega) (HG.out.below hu) (fun t ht hc htt u2 hu2 => Check_any (oidV B0) none 0 u2 (by show B0.length + 4 + 0 ≤ _; omega) (SlD.nil u2) (HG.out.below (hu.trans (hu2.mono hu.size))))
          clear hP hB0
          obtain ⟨P1, P2⟩ := P
          by_cases hp2 : P2 = 0
          · subst hp2
            by_cases hp1 : P1 = s
            · subst hp1
              have heq : ((bs P1).toList == (bs P1).toList) = true := by simp
              have HOK : Hid (ofOidS P1 = (oidV B0, 0)) := Lib.hid (by rw [HX2.out, if_pos rfl])
              go_upto_region 28 with (first
                | (refine wpList_load_rws rfl _ _ (by rfl) (by exact hR) g5 rfl (pv 6 (bs B0)) _ (by repeat (first | exact List.Mem.head _ | refine List.Mem.tail _ ?_)) _ Tryz.underlying24 rfl (by kernel_rfl) ?_)
                | (go_at_call 16; refine (HOI.out _ hR.below).mono ?_; rintro e w5 ⟨rfl, hb5⟩; have hR := hR.call hb5))
              go_wp2_with (first
                | (refine wpList_load_rws rfl _ _ (by rfl) (by exact hR) g5 rfl (pv 6 (bs B0)) _ (by repeat (first | exact List.Mem.head _ | refine List.Mem.tail _ ?_)) _ Tryz.underlying24 rfl (by kernel_rfl) ?_)
                | (refine wpList_store_rws rfl _ _ _ (by rfl) (by exact hR) g2 rfl (pv 6 (bs B0)) (by rfl) _ _ _ (by repeat (first | exact Pick.here | apply Pick.there)) (by kernel_rfl) (by rfl) (pv_one _ _) ?_; intro w9 hR))
              have HR := Lib.hid hR
              refine bodyPost_rws2 rfl HR.out g2 rfl _ _ (List.Mem.head _) _ Tryz.underlying24 rfl (by kernel_rfl) _ rfl rfl (fun hbz => ?_)
              rw [HOK.out]
              exact ⟨rfl, rfl, hbz⟩
            · have hne : ((bs P1).toList == (bs s).toList) = false := by rw [bs_list, bs_list]; simpa using hp1
              have HBAD : Hid (ofOidS s = (.zero, 61)) := Lib.hid (by rw [HX2.out, if_neg (fun h => hp1 (congrArg Prod.fst h))])
              clear hp1
              go_upto_region 26 with (first
                | (refine wpList_load_rws rfl _ _ (by rfl) (by exact hR) g5 rfl (pv 6 (bs B0)) _ (by repeat (first | exact List.Mem.head _ | refine List.Mem.tail _ ?_)) _ Tryz.underlying24 rfl (by kernel_rfl) ?_)
                | (go_at_call 16; refine (HOI.out _ hR.below).mono ?_; rintro e w5 ⟨rfl, hb5⟩; have hR := hR.call hb5))
              go_wp2_with (refine wpList_store_rws rfl _ _ _ (by rfl) (by exact hR) g2 rfl (dvC .zero none 0) (by rfl) _ _ _ (by repeat (first | exact Pick.here | apply Pick.there)) (by kernel_rfl) (by kernel_rfl) (by kernel_rfl) ?_; intro w9 hR)
              have HR := Lib.hid hR
              refine bodyPost_rws2 rfl HR.out g2 rfl _ _ (List.Mem.head _) _ Tryz.underlying24 rfl (by kernel_rfl) _ rfl rfl (fun hbz => ?_)
              rw [HBAD.out]
              exact ⟨rfl, rfl, hbz⟩
          · have hpz : (P2 == 0) = false := by simpa using hp2
            have HBAD : Hid (ofOidS s = (.zero, 61)) := Lib.hid (by rw [HX2.out, if_neg (fun h => hp2 (congrArg Prod.snd h))])
            go_upto_region 26 with (first
              | (refine wpList_load_rws rfl _ _ (by rfl) (by exact hR) g5 rfl (pv 6 (bs B0)) _ (by repeat (first | exact List.Mem.head _ | refine List.Mem.tail _ ?_)) _ Tryz.underlying24 rfl (by kernel_rfl) ?_)
              | (go_at_call 16; refine (HOI.out _ hR.below).mono ?_; rintro e w5 ⟨rfl, hb5⟩; have hR := hR.call hb5))
            go_wp2_with (refine wpList_store_rws rfl _ _ _ (by rfl) (by exact hR) g2 rfl (dvC .zero none 0) (by rfl) _ _ _ (by repeat (first | exact Pick.here | apply Pick.there)) (by kernel_rfl) (by kernel_rfl) (by kernel_rfl) ?_; intro w9 hR)
            have HR := Lib.hid hR
            refine bodyPost_rws2 rfl HR.out g2 rfl _ _ (List.Mem.head _) _ Tryz.underlying24 rfl (by kernel_rfl) _ rfl rfl (fun hbz => ?_)
            rw [HBAD.out]
            exact ⟨rfl, rfl, hbz⟩
end Go.Proofs.YtebhiplcoioenaaGreatDoor
