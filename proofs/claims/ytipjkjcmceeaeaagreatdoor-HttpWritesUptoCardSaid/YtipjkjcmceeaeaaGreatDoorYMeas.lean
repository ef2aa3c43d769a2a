/- http.measured: the walk. -/
import Derived.Test.YtipjkjcmceeaeaaGreatDoorYField
import Derived.Test.YtipjkjcmceeaeaaGreatDoorYLow
import Derived.Lib.Atoi
import Derived.Lib.SmallJoins
namespace Go.Proofs.YtipjkjcmceeaeaaGreatDoor
open Go.RowKit

def zL : Array Value := #[.int .i64 0, .bool false]
def zW : Array Value := #[.string ⟨#[]⟩, .nilIface]
def sLen : ByteArray := ⟨#[97, 32, 108, 101, 110, 103, 116, 104]⟩
@[reducible] def wLen : Array Value := #[.string sLen, lkV sHead]
theorem zero_len (w : World) : (zeroValue 57).run Tryz.prog w = .ok (.agg zL) w := by kernel_rfl
theorem zero_wr (w : World) : (zeroValue 78).run Tryz.prog w = .ok (.agg zW) w := by kernel_rfl
/-- What a length is, in memory. -/
def lenC : Option Nat → Array Value
  | none => #[.int .i64 0, .bool true]
  | some n => #[.int .i64 (n : Nat), .bool false]
def LenPost (h : Hd) (w : World) : Ending → World → Prop := fun e w' => ((∃ b, lenF h = some b ∧ e = .returned (.tuple #[.agg (lenC b), .nilIface])) ∨ (lenF h = none ∧ ∃ why, e = .returned (.tuple #[.agg zL, wrV why sHead]))) ∧ Below w.heap.size w w'
theorem dec_from : ∀ (s : Bs) (n : Nat), s.all dgC = true → Lib.decFrom n s = some (decV n s)
  | [], _, _ => rfl
  | c :: r, n, h => by
    rw [List.all_cons, Bool.and_eq_true] at h
    have hc : 48 ≤ c.toNat ∧ c.toNat ≤ 57 := of_decide_eq_true h.1
    have hd : Lib.digitVal c = some (c.toNat - 48) := by unfold Lib.digitVal; rw [if_pos hc]
    unfold Lib.decFrom decV
    rw [hd]
    show Lib.decFrom (n * 10 + (c.toNat - 48)) r = _
    rw [dec_from r _ h.2, Nat.mul_comm]
theorem atoi_dec {s : Bs} (hne : s ≠ []) (h : s.all dgC = true) : Lib.atoi s = some ((decV 0 s : Nat) : Int) := by
  obtain ⟨c, r, rfl⟩ := List.exists_cons_of_ne_nil hne
  have hc : 48 ≤ c.toNat ∧ c.toNat ≤ 57 := by
    rw [List.all_cons, Bool.and_eq_true] at h
    exact of_decide_eq_true h.1
  have h1 : (c == 45) = false := by
    rw [beq_eq_false_iff_ne]; rintro rfl; exact absurd hc (by decide)
  have h2 : (c == 43) = false := by
    rw [beq_eq_false_iff_ne]; rintro rfl; exact absurd hc (by decide)
  show (if (c == 45) = true then (Lib.decNat r).map (fun (m : Nat) => -(m : Int)) else if (c == 43) = true then (Lib.decNat r).map (fun (m : Nat) => (m : Int)) else (Lib.decNat (c :: r)).map (fun (m : Nat) => (m : Int))) = _
  rw [h1, h2]
  simp only [Bool.false_eq_true, if_false]
  have h3 : Lib.decNat (c :: r) = Lib.decFrom 0 (c :: r) := rfl
  rw [h3, dec_from _ _ h]
  rfl
theorem bytes_below (w : World) (e : TypeId) (s : ByteArray) : Below w.heap.size w (Lib.bytesWorld w e s) := Go.Joins.below_bytesWorld _ w e s (Nat.le_refl _)
set_option maxRecDepth 100000 in
set_option maxHeartbeats 8000000 in
theorem measured_any (h : Hd) (w : World) (h2 : h.2.length ≤ 1048576) : Calls Tryz.prog 57 #[.agg #[.string (bs h.1), .string (bs h.2)]] w (LenPost h w) := by
  have hSB := SB_eq
  have hR := Rws.start w
  have z1 := bs_size h.1
  have z2 := bs_size h.2
  by_cases c1 : h.1 = wTe
  · have q1 : ((bs h.1).toList == [116, 114, 97, 110, 115, 102, 101, 114, 45, 101, 110, 99, 111, 100, 105, 110, 103]) = true := by rw [bs_list, c1]; rfl
    have HLO0 : ∀ u, Calls Tryz.prog 37 #[.string (bs h.2)] u (RetS (bs (lowS h.2)) u) := fun u => lower_any h.2 u (by omega)
    obtain ⟨X, hX⟩ : ∃ X, X = lowS h.2 := ⟨_, rfl⟩
    rw [← hX] at HLO0
    have HLO := Lib.hid HLO0
    by_cases c2 : X = wChunked
    · have q2 : ((bs X).toList == [99, 104, 117, 110, 107, 101, 100]) = true := by rw [bs_list, c2]; rfl
      have HL : Hid (lenF h = some none) := Lib.hid (by unfold lenF; rw [if_pos c1, if_pos (hX.symm.trans c2)])
      clear c1 c2 hX HLO0
      go_enter Tryz.func57, Tryz.ntmps57
      go_upto_region 2 with (first
        | (refine wpList_box_rws rfl _ _ (by rfl) (by exact hR) #[.string (bs h.1), .string (bs h.2)] rfl ?_; intro gb w1 hR)
        | (refine wQ_alloc (cs := zL) rfl _ (by rfl) (by exact hR) zero_len ?_; intro gl w2 hR hb2 hg2)
        | (refine wQ_alloc (cs := zW) rfl _ (by rfl) (by exact hR) zero_wr ?_; intro gw w3 hR hb3 hg3)
        | (refine wQ_store rfl _ _ _ (by rfl) (by exact hR) gw rfl wLen (by rfl) _ _ _ (by repeat (first | exact Pick.here | apply Pick.there)) (by kernel_rfl) (by kernel_rfl) (by kernel_rfl) ?_; intro w4 hR hsm4 hsz4))
      clear hb2 hg2 hb3 hg3 hsm4 hsz4
      have n0 : w4.cell? ⟨gb, 0, none⟩ = some (.string (bs h.1)) := hR.cellAt (g := gb) (by repeat (first | exact List.Mem.head _ | refine List.Mem.tail _ ?_)) 0 rfl
      have n1 : w4.cell? ⟨gb, 1, none⟩ = some (.string (bs h.2)) := hR.cellAt (g := gb) (by repeat (first | exact List.Mem.head _ | refine List.Mem.tail _ ?_)) 1 rfl
      go_wp2_with (first
        | (go_at_call 37; refine (HLO.out _).mono ?_; rintro e w5 ⟨rfl, hb5⟩; have hR := hR.call hb5)
        | (refine wQ_store rfl _ _ _ (by rfl) (by exact hR) gl rfl (lenC none) (by rfl) _ _ _ (by repeat (first | exact Pick.here | apply Pick.there)) (by kernel_rfl) (by kernel_rfl) (by kernel_rfl) ?_; intro w6 hR hsm6 hsz6))
      have HR3 := Lib.hid hR
      refine bodyPost_rws2 rfl HR3.out gl rfl _ _ (List.Mem.head _) _ Tryz.underlying57 rfl (by kernel_rfl) _ rfl rfl (fun hbz => ?_)
      exact ⟨Or.inl ⟨none, HL.out, rfl⟩, hbz⟩
    · have q2 : ((bs X).toList == [99, 104, 117, 110, 107, 101, 100]) = false := by rw [bs_list, beqL]; exact decide_eq_false c2
      have HL : Hid (lenF h = none) := Lib.hid (by unfold lenF; rw [if_pos c1, if_neg (by rw [← hX]; exact c2)])
      clear c1 c2 hX HLO0
      go_enter Tryz.func57, Tryz.ntmps57
      go_upto_region 2 with (first
        | (refine wpList_box_rws rfl _ _ (by rfl) (by exact hR) #[.string (bs h.1), .string (bs h.2)] rfl ?_; intro gb w1 hR)
        | (refine wQ_alloc (cs := zL) rfl _ (by rfl) (by exact hR) zero_len ?_; intro gl w2 hR hb2 hg2)
        | (refine wQ_alloc (cs := zW) rfl _ (by rfl) (by exact hR) zero_wr ?_; intro gw w3 hR hb3 hg3)
        | (refine wQ_store rfl _ _ _ (by rfl) (by exact hR) gw rfl wLen (by rfl) _ _ _ (by repeat (first | exact Pick.here | apply Pick.there)) (by kernel_rfl) (by kernel_rfl) (by kernel_rfl) ?_; intro w4 hR hsm4 hsz4))
      clear hb2 hg2 hb3 hg3 hsm4 hsz4
      have n0 : w4.cell? ⟨gb, 0, none⟩ = some (.string (bs h.1)) := hR.cellAt (g := gb) (by repeat (first | exact List.Mem.head _ | refine List.Mem.tail _ ?_)) 0 rfl
      have n1 : w4.cell? ⟨gb, 1, none⟩ = some (.string (bs h.2)) := hR.cellAt (g := gb) (by repeat (first | exact List.Mem.head _ | refine List.Mem.tail _ ?_)) 1 rfl
      go_upto_region 4 with (go_at_call 37; refine (HLO.out _).mono ?_; rintro e w5 ⟨rfl, hb5⟩; have hR := hR.call hb5)
      clear n0 n1
      have l0 : w5.cell? ⟨gl, 0, none⟩ = some (.int .i64 0) := hR.cellAt (g := gl) (by repeat (first | exact List.Mem.head _ | refine List.Mem.tail _ ?_)) 0 rfl
      have l1 : w5.cell? ⟨gl, 1, none⟩ = some (.bool false) := hR.cellAt (g := gl) (by repeat (first | exact List.Mem.head _ | refine List.Mem.tail _ ?_)) 1 rfl
      have t0 := hR.thaw (g := gl) (by repeat (first | exact List.Mem.head _ | refine List.Mem.tail _ ?_)) 0
      have t1 := hR.thaw (g := gl) (by repeat (first | exact List.Mem.head _ | refine List.Mem.tail _ ?_)) 1
      have k0 : w5.cell? ⟨gw, 0, none⟩ = some (.string sLen) := hR.cellAt (g := gw) (by repeat (first | exact List.Mem.head _ | refine List.Mem.tail _ ?_)) 0 rfl
      have k1 : w5.cell? ⟨gw, 1, none⟩ = some (lkV sHead) := hR.cellAt (g := gw) (by repeat (first | exact List.Mem.head _ | refine List.Mem.tail _ ?_)) 1 rfl
      have hne := (List.pairwise_cons.1 hR.nd).1 _ (List.Mem.head _)
      have hne2 := Ne.symm hne
      have HR3 := Lib.hid ((hR.swap.drew.setc 0 (.int .i64 0)).setc 1 (.bool false))
      clear hR
      go_region
      all_goals
        go_wp2_with fail
        refine bodyPost_rws2 rfl HR3.out gl rfl _ _ (List.Mem.head _) _ Tryz.underlying57 rfl (by kernel_rfl) _ rfl rfl (fun hbz => ?_)
        exact ⟨Or.inr ⟨HL.out, _, rfl⟩, hbz⟩
  · have q1 : ((bs h.1).toList == [116, 114, 97, 110, 115, 102, 101, 114, 45, 101, 110, 99, 111, 100, 105, 110, 103]) = false := by rw [bs_list, beqL]; exact decide_eq_false c1
    have HOF0 : ∀ u, Calls Tryz.prog 46 #[.string (bs h.2), .int .i64 1, .int .i64 9, .func (.func 73) #[] #[]] u fun e w' => e = .returned (.bool (ofB 1 9 dgC h.2)) ∧ w' = u := fun u => of_any _ dgC lk_digit h.2 1 9 u (by omega)
    cases ho : ofB 1 9 dgC h.2 with
    | false =>
      rw [ho] at HOF0
      have HOF := Lib.hid HOF0
      have HL : Hid (lenF h = none) := Lib.hid (by unfold lenF; rw [if_neg c1, if_neg (by rw [ho]; rintro ⟨h, _⟩; cases h)])
      clear c1 ho HOF0
      go_enter Tryz.func57, Tryz.ntmps57
      go_upto_region 2 with (first
        | (refine wpList_box_rws rfl _ _ (by rfl) (by exact hR) #[.string (bs h.1), .string (bs h.2)] rfl ?_; intro gb w1 hR)
        | (refine wQ_alloc (cs := zL) rfl _ (by rfl) (by exact hR) zero_len ?_; intro gl w2 hR hb2 hg2)
        | (refine wQ_alloc (cs := zW) rfl _ (by rfl) (by exact hR) zero_wr ?_; intro gw w3 hR hb3 hg3)
        | (refine wQ_store rfl _ _ _ (by rfl) (by exact hR) gw rfl wLen (by rfl) _ _ _ (by repeat (first | exact Pick.here | apply Pick.there)) (by kernel_rfl) (by kernel_rfl) (by kernel_rfl) ?_; intro w4 hR hsm4 hsz4))
      clear hb2 hg2 hb3 hg3 hsm4 hsz4
      have n0 : w4.cell? ⟨gb, 0, none⟩ = some (.string (bs h.1)) := hR.cellAt (g := gb) (by repeat (first | exact List.Mem.head _ | refine List.Mem.tail _ ?_)) 0 rfl
      have n1 : w4.cell? ⟨gb, 1, none⟩ = some (.string (bs h.2)) := hR.cellAt (g := gb) (by repeat (first | exact List.Mem.head _ | refine List.Mem.tail _ ?_)) 1 rfl
      go_upto_region 7 with (go_at_call 46; refine (HOF.out _).mono ?_; rintro e w5 ⟨rfl, rfl⟩)
      clear n0 n1
      have l0 : w5.cell? ⟨gl, 0, none⟩ = some (.int .i64 0) := hR.cellAt (g := gl) (by repeat (first | exact List.Mem.head _ | refine List.Mem.tail _ ?_)) 0 rfl
      have l1 : w5.cell? ⟨gl, 1, none⟩ = some (.bool false) := hR.cellAt (g := gl) (by repeat (first | exact List.Mem.head _ | refine List.Mem.tail _ ?_)) 1 rfl
      have t0 := hR.thaw (g := gl) (by repeat (first | exact List.Mem.head _ | refine List.Mem.tail _ ?_)) 0
      have t1 := hR.thaw (g := gl) (by repeat (first | exact List.Mem.head _ | refine List.Mem.tail _ ?_)) 1
      have k0 : w5.cell? ⟨gw, 0, none⟩ = some (.string sLen) := hR.cellAt (g := gw) (by repeat (first | exact List.Mem.head _ | refine List.Mem.tail _ ?_)) 0 rfl
      have k1 : w5.cell? ⟨gw, 1, none⟩ = some (lkV sHead) := hR.cellAt (g := gw) (by repeat (first | exact List.Mem.head _ | refine List.Mem.tail _ ?_)) 1 rfl
      have hne := (List.pairwise_cons.1 hR.nd).1 _ (List.Mem.head _)
      have hne2 := Ne.symm hne
      have HR3 := Lib.hid ((hR.swap.drew.setc 0 (.int .i64 0)).setc 1 (.bool false))
      clear hR
      go_region
      all_goals
        go_wp2_with fail
        refine bodyPost_rws2 rfl HR3.out gl rfl _ _ (List.Mem.head _) _ Tryz.underlying57 rfl (by kernel_rfl) _ rfl rfl (fun hbz => ?_)
        exact ⟨Or.inr ⟨HL.out, _, rfl⟩, hbz⟩
    | true =>
      rw [ho] at HOF0
      have HOF := Lib.hid HOF0
      have hall : h.2.all dgC = true ∧ 1 ≤ h.2.length ∧ h.2.length ≤ 9 := by
        unfold ofB at ho
        simp only [Bool.and_eq_true, decide_eq_true_eq] at ho
        exact ⟨ho.1.1, ho.1.2, ho.2⟩
      have hne : h.2 ≠ [] := fun e => by rw [e] at hall; exact absurd hall.2.1 (by decide)
      obtain ⟨x, r, hxr⟩ := List.exists_cons_of_ne_nil hne
      have hgx := bs_get h.2 0 x (by rw [hxr]; rfl)
      have hl0 : (0 : Int) < (h.2.length : Int) := by omega
      have HAT0 : ∀ u, Calls Tryz.prog 86 #[.string (bs h.2)] u fun e w' => e = .returned (.tuple #[.int .i64 ((decV 0 h.2 : Nat) : Int), .nilIface]) ∧ ∃ t, w' = Lib.bytesWorld u 5 t := fun u => Tryz.strconv_Atoi (bs h.2) _ (by rw [bs_size]; omega) (by exact atoi_dec hne hall.1) u
      obtain ⟨V, hV⟩ : ∃ V, V = decV 0 h.2 := ⟨_, rfl⟩
      rw [← hV] at HAT0
      have HAT := Lib.hid HAT0
      clear HAT0 HOF0
      by_cases c3 : x = 48
      · have q3 : (((x.toNat : Nat) : Int) == 48) = true := by rw [c3]; rfl
        by_cases c4 : h.2 = [48]
        · have q4 : ((bs h.2).toList == [48]) = true := by rw [bs_list, c4]; rfl
          have HL : Hid (lenF h = some (some V)) := Lib.hid (by unfold lenF; rw [if_neg c1, if_pos ⟨ho, fun hh => hh.2 c4⟩, hV])
          clear c1 c3 c4 ho hall hne hxr hV
          go_enter Tryz.func57, Tryz.ntmps57
          go_upto_region 2 with (first
            | (refine wpList_box_rws rfl _ _ (by rfl) (by exact hR) #[.string (bs h.1), .string (bs h.2)] rfl ?_; intro gb w1 hR)
            | (refine wQ_alloc (cs := zL) rfl _ (by rfl) (by exact hR) zero_len ?_; intro gl w2 hR hb2 hg2)
            | (refine wQ_alloc (cs := zW) rfl _ (by rfl) (by exact hR) zero_wr ?_; intro gw w3 hR hb3 hg3)
            | (refine wQ_store rfl _ _ _ (by rfl) (by exact hR) gw rfl wLen (by rfl) _ _ _ (by repeat (first | exact Pick.here | apply Pick.there)) (by kernel_rfl) (by kernel_rfl) (by kernel_rfl) ?_; intro w4 hR hsm4 hsz4))
          clear hb2 hg2 hb3 hg3 hsm4 hsz4
          have n0 : w4.cell? ⟨gb, 0, none⟩ = some (.string (bs h.1)) := hR.cellAt (g := gb) (by repeat (first | exact List.Mem.head _ | refine List.Mem.tail _ ?_)) 0 rfl
          have n1 : w4.cell? ⟨gb, 1, none⟩ = some (.string (bs h.2)) := hR.cellAt (g := gb) (by repeat (first | exact List.Mem.head _ | refine List.Mem.tail _ ?_)) 1 rfl
          go_wp2_with (go_at_call 46; refine (HOF.out _).mono ?_; rintro e w5 ⟨rfl, rfl⟩)
          refine (HAT.out _).mono ?_
          rintro e w6 ⟨rfl, tt, rfl⟩
          have hR := hR.call (bytes_below _ 5 tt)
          go_wp2_with (refine wQ_store rfl _ _ _ (by rfl) (by exact hR) gl rfl (lenC (some V)) (by rfl) _ _ _ (by repeat (first | exact Pick.here | apply Pick.there)) (by kernel_rfl) (by kernel_rfl) (by kernel_rfl) ?_; intro w7 hR hsm6 hsz6)
          have HR3 := Lib.hid hR
          refine bodyPost_rws2 rfl HR3.out gl rfl _ _ (List.Mem.head _) _ Tryz.underlying57 rfl (by kernel_rfl) _ rfl rfl (fun hbz => ?_)
          exact ⟨Or.inl ⟨some V, HL.out, rfl⟩, hbz⟩
        · have q4 : ((bs h.2).toList == [48]) = false := by rw [bs_list, beqL]; exact decide_eq_false c4
          have HL : Hid (lenF h = none) := Lib.hid (by unfold lenF; rw [if_neg c1, if_neg (fun hh => hh.2 ⟨by rw [hxr, c3]; rfl, c4⟩)])
          clear c1 c3 c4 ho hall hne hxr hV
          go_enter Tryz.func57, Tryz.ntmps57
          go_upto_region 2 with (first
            | (refine wpList_box_rws rfl _ _ (by rfl) (by exact hR) #[.string (bs h.1), .string (bs h.2)] rfl ?_; intro gb w1 hR)
            | (refine wQ_alloc (cs := zL) rfl _ (by rfl) (by exact hR) zero_len ?_; intro gl w2 hR hb2 hg2)
            | (refine wQ_alloc (cs := zW) rfl _ (by rfl) (by exact hR) zero_wr ?_; intro gw w3 hR hb3 hg3)
            | (refine wQ_store rfl _ _ _ (by rfl) (by exact hR) gw rfl wLen (by rfl) _ _ _ (by repeat (first | exact Pick.here | apply Pick.there)) (by kernel_rfl) (by kernel_rfl) (by kernel_rfl) ?_; intro w4 hR hsm4 hsz4))
          clear hb2 hg2 hb3 hg3 hsm4 hsz4
          have n0 : w4.cell? ⟨gb, 0, none⟩ = some (.string (bs h.1)) := hR.cellAt (g := gb) (by repeat (first | exact List.Mem.head _ | refine List.Mem.tail _ ?_)) 0 rfl
          have n1 : w4.cell? ⟨gb, 1, none⟩ = some (.string (bs h.2)) := hR.cellAt (g := gb) (by repeat (first | exact List.Mem.head _ | refine List.Mem.tail _ ?_)) 1 rfl
          go_upto_region 7 with (go_at_call 46; refine (HOF.out _).mono ?_; rintro e w5 ⟨rfl, rfl⟩)
          clear n0 n1 hgx
          have l0 : w5.cell? ⟨gl, 0, none⟩ = some (.int .i64 0) := hR.cellAt (g := gl) (by repeat (first | exact List.Mem.head _ | refine List.Mem.tail _ ?_)) 0 rfl
          have l1 : w5.cell? ⟨gl, 1, none⟩ = some (.bool false) := hR.cellAt (g := gl) (by repeat (first | exact List.Mem.head _ | refine List.Mem.tail _ ?_)) 1 rfl
          have t0 := hR.thaw (g := gl) (by repeat (first | exact List.Mem.head _ | refine List.Mem.tail _ ?_)) 0
          have t1 := hR.thaw (g := gl) (by repeat (first | exact List.Mem.head _ | refine List.Mem.tail _ ?_)) 1
          have k0 : w5.cell? ⟨gw, 0, none⟩ = some (.string sLen) := hR.cellAt (g := gw) (by repeat (first | exact List.Mem.head _ | refine List.Mem.tail _ ?_)) 0 rfl
          have k1 : w5.cell? ⟨gw, 1, none⟩ = some (lkV sHead) := hR.cellAt (g := gw) (by repeat (first | exact List.Mem.head _ | refine List.Mem.tail _ ?_)) 1 rfl
          have hne := (List.pairwise_cons.1 hR.nd).1 _ (List.Mem.head _)
          have hne2 := Ne.symm hne
          have HR3 := Lib.hid ((hR.swap.drew.setc 0 (.int .i64 0)).setc 1 (.bool false))
          clear hR
          go_region
          all_goals
            go_wp2_with fail
            refine bodyPost_rws2 rfl HR3.out gl rfl _ _ (List.Mem.head _) _ Tryz.underlying57 rfl (by kernel_rfl) _ rfl rfl (fun hbz => ?_)
            exact ⟨Or.inr ⟨HL.out, _, rfl⟩, hbz⟩
      · have q3 : (((x.toNat : Nat) : Int) == 48) = false := by
          have : x.toNat ≠ 48 := fun h => c3 (UInt8.toNat_inj.1 (by simpa using h))
          simp; omega
        have HL : Hid (lenF h = some (some V)) := Lib.hid (by unfold lenF; rw [if_neg c1, if_pos ⟨ho, fun hh => c3 (by rw [hxr] at hh; exact Option.some.inj hh.1)⟩, hV])
        clear c1 c3 ho hall hne hxr hV
        go_enter Tryz.func57, Tryz.ntmps57
        go_upto_region 2 with (first
          | (refine wpList_box_rws rfl _ _ (by rfl) (by exact hR) #[.string (bs h.1), .string (bs h.2)] rfl ?_; intro gb w1 hR)
          | (refine wQ_alloc (cs := zL) rfl _ (by rfl) (by exact hR) zero_len ?_; intro gl w2 hR hb2 hg2)
          | (refine wQ_alloc (cs := zW) rfl _ (by rfl) (by exact hR) zero_wr ?_; intro gw w3 hR hb3 hg3)
          | (refine wQ_store rfl _ _ _ (by rfl) (by exact hR) gw rfl wLen (by rfl) _ _ _ (by repeat (first | exact Pick.here | apply Pick.there)) (by kernel_rfl) (by kernel_rfl) (by kernel_rfl) ?_; intro w4 hR hsm4 hsz4))
        clear hb2 hg2 hb3 hg3 hsm4 hsz4
        have n0 : w4.cell? ⟨gb, 0, none⟩ = some (.string (bs h.1)) := hR.cellAt (g := gb) (by repeat (first | exact List.Mem.head _ | refine List.Mem.tail _ ?_)) 0 rfl
        have n1 : w4.cell? ⟨gb, 1, none⟩ = some (.string (bs h.2)) := hR.cellAt (g := gb) (by repeat (first | exact List.Mem.head _ | refine List.Mem.tail _ ?_)) 1 rfl
        go_wp2_with (go_at_call 46; refine (HOF.out _).mono ?_; rintro e w5 ⟨rfl, rfl⟩)
        refine (HAT.out _).mono ?_
        rintro e w6 ⟨rfl, tt, rfl⟩
        have hR := hR.call (bytes_below _ 5 tt)
        go_wp2_with (refine wQ_store rfl _ _ _ (by rfl) (by exact hR) gl rfl (lenC (some V)) (by rfl) _ _ _ (by repeat (first | exact Pick.here | apply Pick.there)) (by kernel_rfl) (by kernel_rfl) (by kernel_rfl) ?_; intro w7 hR hsm6 hsz6)
        have HR3 := Lib.hid hR
        refine bodyPost_rws2 rfl HR3.out gl rfl _ _ (List.Mem.head _) _ Tryz.underlying57 rfl (by kernel_rfl) _ rfl rfl (fun hbz => ?_)
        exact ⟨Or.inl ⟨some V, HL.out, rfl⟩, hbz⟩
end Go.Proofs.YtipjkjcmceeaeaaGreatDoor
