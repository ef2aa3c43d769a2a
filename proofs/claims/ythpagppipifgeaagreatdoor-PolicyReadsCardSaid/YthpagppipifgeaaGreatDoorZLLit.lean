/- reader.literal: the walk. -/
import Derived.Test.YthpagppipifgeaaGreatDoorZLWord
import Derived.Test.YthpagppipifgeaaGreatDoorZLBuild
namespace Go.Proofs.YthpagppipifgeaaGreatDoor
open Go.RowKit

/-- A literal behind its first quote: what it says, and what is behind it. -/
def litE : Bool → List UInt8 → List UInt8 → Option (List UInt8 × List UInt8)
  | _, [], _ => none
  | true, d :: r, b => if d = 34 ∨ d = 92 then litE false r (b ++ [d]) else none
  | false, c :: r, b => if c = 34 then some (b, r) else if c = 92 then litE true r b else litE false r (b ++ [c])
def litS (l b : List UInt8) : Option (List UInt8 × List UInt8) := litE false l b
theorem litE_le : ∀ (l : List UInt8) (q : Bool) (b c r : List UInt8), litE q l b = some (c, r) → r.length ≤ l.length := by
  intro l
  induction l with
  | nil => intro q b c r h; cases q <;> simp [litE] at h
  | cons x l ih =>
    intro q b c r h
    cases q
    · simp only [litE] at h
      split at h
      · simp at h; rw [← h.2]; simp
      · split at h
        · have := ih _ _ _ _ h; simp; omega
        · have := ih _ _ _ _ h; simp; omega
    · simp only [litE] at h
      split at h
      · have := ih _ _ _ _ h; simp; omega
      · simp at h
/-- reader.literal's answer. -/
def literalS (s : List UInt8) : Option (List UInt8 × List UInt8) :=
  match trL s with
  | [] => none
  | c :: r => if c = 34 then (match litS r [] with
      | some (b, r') => if litB (bs b) then some (b, r') else none
      | none => none) else none
/-- An error, and some text is left. -/
def Fell (rb : Nat) (v : Value) (w : World) : Ending → World → Prop := fun e w' => (∃ why, e = .returned (.tuple #[v, wrapV why])) ∧ ∃ u : List UInt8, u.length ≤ 1024 ∧ Mv rb u w w'
def lit2 (o : Option (List UInt8 × List UInt8)) : Option (List UInt8 × List UInt8) :=
  match o with
  | some (b, r') => if litB (bs b) then some (b, r') else none
  | none => none
theorem literalS_quote {s r : List UInt8} (h : trL s = 34 :: r) : literalS s = lit2 (litS r []) := by unfold literalS; rw [h]; rfl
theorem literalS_other {s : List UInt8} (h : ∀ r, trL s ≠ 34 :: r) : literalS s = none := by
  unfold literalS
  cases hu : trL s with
  | nil => rfl
  | cons c r =>
    by_cases hc : c = 34
    · subst hc; exact absurd hu (h r)
    · simp [hc]
theorem peek_quote {u : List UInt8} (h : (peekS u).2 = 34) : ∃ r, u = 34 :: r := by
  cases u with
  | nil => simp [peekS] at h
  | cons c r =>
    unfold peekS at h
    simp only at h
    split at h
    · refine ⟨r, ?_⟩
      have : c = 34 := UInt8.toNat_inj.1 (by simpa using h)
      rw [this]
    · split at h <;> simp at h
theorem quote_peek (r : List UInt8) : peekS (34 :: r) = ([34], 34) := by simp [peekS]
def LitOut (rb : Nat) (o : Option (List UInt8 × List UInt8)) (w : World) : Ending → World → Prop := fun e w' =>
  match o with
  | some (b, r) => e = .returned (.tuple #[.string (bs b), .nilIface]) ∧ r.length ≤ 1024 ∧ b.length ≤ 64 ∧ Mv rb r w w'
  | none => Fell rb (.string e0) w e w'
theorem bld_mv {rb B b : Nat} {s : List UInt8} {cs : List Value} {w w' : World} (h : Lib.IsBuilder 95 5 B b cs w) (hm : Mv rb s w w') (hr : rb < B) : Lib.IsBuilder 95 5 B b cs w' := by
  have hk : ∀ k o, B ≤ k → w.heap[k]? = some o → w'.heap[k]? = some o := fun k o hB hk => by
    have hlt := (Array.getElem?_eq_some_iff.1 hk).1
    rw [hm.block k hlt (by omega)]; exact hk
  have ho : ∀ p, Lib.BuilderAt 95 5 B b p cs w → Lib.BuilderAt 95 5 B b p cs w' := by
    rintro p ⟨hB, v, hb, hown, hne⟩
    refine ⟨hB, v, hk b _ hB hb, ?_, hne⟩
    obtain ⟨h1, h2⟩ := hown
    refine ⟨h1, ?_⟩
    rcases h2 with h2 | ⟨g, cap, cur, hv, hg, hh, r⟩
    · exact Or.inl h2
    · exact Or.inr ⟨g, cap, cur, hv, hg, hk g _ hg hh, r⟩
  rcases h with h | h
  · exact Or.inl (ho _ h)
  · exact Or.inr (ho _ h)
/-- A call that has left all below B as it was, where the reader lies below B. -/
theorem mv_base {rb B : Nat} {s : List UInt8} {w w1 w2 : World} (h : Mv rb s w w1) (hb : Below B w1 w2) (hr : rb < B) (hB : w.heap.size ≤ B) : Mv rb s w w2 :=
  ⟨hb.os.trans h.os, hb.tape.trans h.tape, hb.output.trans h.output, Nat.le_trans h.size hb.size, fun k hk hne => (hb.block k (by omega)).trans (h.block k hk hne), (hb.block rb hr).trans h.at_⟩
theorem bldF_below {B b : Nat} {cs : List Value} {w w' : World} (h : Lib.IsBuilderF 95 5 B b cs w) (hb : Below w.heap.size w w') : Lib.IsBuilderF 95 5 B b cs w' := by
  have hk : ∀ (k : Nat) o, w.heap[k]? = some o → w'.heap[k]? = some o := fun k o hk => by
    rw [hb.block k (Array.getElem?_eq_some_iff.1 hk).1]; exact hk
  have ho : ∀ p, Lib.BuilderAtF 95 5 B b p cs w → Lib.BuilderAtF 95 5 B b p cs w' := by
    rintro p ⟨hB, v, hbv, ⟨h1, h2⟩, hne⟩
    refine ⟨hB, v, hk b _ hbv, ⟨h1, ?_⟩, hne⟩
    rcases h2 with h2 | ⟨g, cap, cur, fz, hv, hg, hh, r⟩
    · exact Or.inl h2
    · exact Or.inr ⟨g, cap, cur, fz, hv, hg, hk g _ hh, r⟩
  rcases h with h | h
  · exact Or.inl (ho _ h)
  · exact Or.inr (ho _ h)
theorem lit_len {b : ByteArray} (h : litB b = true) : b.size ≤ 64 := by
  unfold litB at h
  simp at h
  exact h.1

set_option maxRecDepth 100000 in
set_option maxHeartbeats 4000000 in
theorem rlit_any (rb : Nat) (s : List UInt8) (w : World) (ha : At rb s w) (hbig : s.length ≤ 1024) :
    Calls Tryz.prog 123 #[.pointer (some ⟨rb, 0, none⟩)] w (LitOut rb (literalS s) w) := by
  have HP : Hid (Calls Tryz.prog 59 #[.pointer (some ⟨rb, 0, none⟩)] w (PeekPost rb s w)) := Lib.hid (peek_any rb s w ha (by omega))
  have hul := trL_le s
  have hu4 : (trL s).length ≤ 1024 := by omega
  unfold PeekPost at HP
  by_cases hq : (peekS (trL s)).2 = 34
  · obtain ⟨r, hr⟩ := peek_quote hq
    rw [literalS_quote hr]
    rw [hr] at HP hu4
    rw [quote_peek] at HP
    obtain ⟨u, hu⟩ : ∃ u, u = 34 :: r := ⟨_, rfl⟩
    have hdr : u.drop 1 = r := by rw [hu]; rfl
    rw [← hu] at HP hu4
    have h1u : 1 ≤ u.length := by rw [hu]; simp
    clear hq hr hul ha hbig
    have HDR := Lib.hid hdr
    clear hu hdr
    have hsz := bs_size u
    simp only at HP
    go_enter Tryz.func123, Tryz.ntmps123
    go_wp2_with (go_at_call 59; refine HP.out.mono ?_; rintro e w1 ⟨rfl, hm⟩)
    have HW1 := Lib.hid hm
    have hrb := hm.lt
    have hat0 := hm.at_
    have HPst := HP
    clear hm HP
    go_loopg [7] (u.length - 1) (fun gg s7 wr => ∃ (i : Nat) (acc : List UInt8), s7 = .int .i64 i ∧ 1 ≤ i ∧ i ≤ u.length ∧ gg = u.length - i ∧ acc.length ≤ i ∧ Aside (litS (u.drop i) acc = litS r []) ∧ Aside (Below w1.heap.size w1 wr) ∧ Aside (Lib.IsBuilder 95 5 w1.heap.size w1.heap.size (Lib.byteCells acc) wr))
    case atStart =>
      refine ⟨1, [], rfl, Nat.le_refl _, h1u, rfl, by simp, ?_, b_alloc w1 _, ?_⟩
      · have := HDR.out
        exact (by rw [this] : litS (u.drop 1) [] = litS r [])
      · exact Lib.fresh_isBuilder _ _ w1
    case round =>
      obtain ⟨i, acc, rfl, hi1, hiu, rfl, hal, HA, BW, HB⟩ := hrel
      have hBw : w1.heap.size ≤ wr.heap.size := BW.out.size
      have hatr : At rb u wr := hat0.below BW.out
      have cR := hatr.cell
      have HAT := Lib.hid hatr
      clear hatr
      by_cases hlt : i < u.length
      · have hltz : (i : Int) < (u.length : Int) := by omega
        obtain ⟨x, hx⟩ : ∃ x, u[i]? = some x := ⟨u[i], by simp [hlt]⟩
        have hgi := bs_get u i x hx
        have hdi : u.drop i = x :: u.drop (i + 1) := by
          rw [List.drop_eq_getElem_cons hlt]
          rw [List.getElem?_eq_getElem hlt] at hx
          rw [Option.some.inj hx]
        have HD := Lib.hid hdi
        clear hdi hx
        by_cases x34 : x = 34
        · subst x34
          have HS : Hid (∀ w2, At rb u w2 → Calls Tryz.prog 110 #[.pointer (some ⟨rb, 0, none⟩), .string ((bs u).extract 0 (i + 1))] w2 fun e w' => e = .returned (.tuple #[]) ∧ Mv rb (u.drop (i + 1)) w2 w') := Lib.hid fun w2 ha => by
            have hz : ((bs u).extract 0 (i + 1)).size = i + 1 := by rw [bs_cut, bs_size]; simp; omega
            have := skip_any rb u ((bs u).extract 0 (i + 1)) w2 ha (by rw [hz]; omega)
            rw [hz] at this
            exact this
          have hdl : (u.drop (i + 1)).length ≤ 1024 := by rw [List.length_drop]; omega
          have hl2 : lit2 (litS r []) = if litB (bs acc) then some (acc, u.drop (i + 1)) else none := by rw [← HA.out, HD.out]; rfl
          have HL2 := Lib.hid hl2
          have hlit : ∀ w2, Calls Tryz.prog 48 #[.string (bs acc)] w2 (RetB (litB (bs acc)) w2) := fun w2 => literal_any (bs acc) w2 (by rw [bs_size, SB_eq]; omega)
          have HLIT := Lib.hid hlit
          have hacc : (⟨acc.toArray⟩ : ByteArray) = bs acc := rfl
          clear hl2 hlit
          cases hb : litB (bs acc) with
          | true =>
            have HLB := Lib.hid hb
            rw [hb] at HLIT
            clear hb
            go_wp2_with fail
            refine (HS.out _ HAT.out).mono ?_
            rintro e w2 ⟨rfl, hm2⟩
            have hF := Lib.IsBuilderF.of (bld_mv HB.out hm2 hrb)
            have HM2 := Lib.hid hm2
            clear hm2
            go_wp2_with fail
            refine (Tryz.Builder_String_any_f w1.heap.size w1.heap.size acc _  hF (Nat.le_trans hBw HM2.out.size)).mono ?_
            rintro e w3 ⟨rfl, hF3, hb3⟩
            rw [hacc]
            go_wp2_with fail
            refine (HLIT.out _).mono ?_
            rintro e w4 ⟨rfl, hb4⟩
            have hF4 := bldF_below hF3 hb4
            have hz4 : w1.heap.size ≤ w4.heap.size := Nat.le_trans (Nat.le_trans (Nat.le_trans hBw HM2.out.size) hb3.size) hb4.size
            go_wp2_with fail
            refine (Tryz.Builder_String_any_f w1.heap.size w1.heap.size acc _  hF4 hz4).mono ?_
            rintro e w5 ⟨rfl, hF5, hb5⟩
            rw [hacc]
            go_wp2_with fail
            go_ret2
            rw [HL2.out, HLB.out]
            have hq : Mv rb (u.drop (i + 1)) w w5 := mv_base (HW1.out.then BW.out |>.trans HM2.out) (hb3.trans (hb4.mono (Nat.le_trans (Nat.le_trans hBw HM2.out.size) hb3.size)) |>.trans hb5) hrb HW1.out.size
            exact ⟨rfl, hdl, by have := lit_len HLB.out; rw [bs_size] at this; exact this, hq⟩
          | false =>
            have HLB := Lib.hid hb
            rw [hb] at HLIT
            clear hb
            go_wp2_with fail
            refine (HS.out _ HAT.out).mono ?_
            rintro e w2 ⟨rfl, hm2⟩
            have hF := Lib.IsBuilderF.of (bld_mv HB.out hm2 hrb)
            have HM2 := Lib.hid hm2
            clear hm2
            go_wp2_with fail
            refine (Tryz.Builder_String_any_f w1.heap.size w1.heap.size acc _  hF (Nat.le_trans hBw HM2.out.size)).mono ?_
            rintro e w3 ⟨rfl, hF3, hb3⟩
            rw [hacc]
            go_wp2_with fail
            refine (HLIT.out _).mono ?_
            rintro e w4 ⟨rfl, hb4⟩
            go_wp2_with fail
            refine (wanted_any _ _ (by decide)).mono ?_
            rintro e w5 ⟨⟨why, rfl⟩, rfl⟩
            go_wp2_with fail
            go_ret2
            rw [HL2.out, HLB.out]
            have hq : Mv rb (u.drop (i + 1)) w w5 := mv_base (HW1.out.then BW.out |>.trans HM2.out) (hb3.trans (hb4.mono (Nat.le_trans (Nat.le_trans hBw HM2.out.size) hb3.size))) hrb HW1.out.size
            exact ⟨⟨_, rfl⟩, u.drop (i + 1), hdl, hq⟩
        · have n34 : ((x.toNat : Int) == 34) = false := by
            have : x.toNat ≠ 34 := fun e => x34 (UInt8.toNat_inj.1 e)
            simp; omega
          by_cases x92 : x = 92
          · subst x92
            have hw1 : wrap64 ((i : Int) + 1) = ((i + 1 : Nat) : Int) := by unfold wrap64; omega
            by_cases hlt2 : i + 1 < u.length
            · have hltz2 : ((i + 1 : Nat) : Int) < (u.length : Int) := by omega
              have hq1 : (((i + 1 : Nat) : Int) == (u.length : Int)) = false := by simp; omega
              obtain ⟨y, hy⟩ : ∃ y, u[i + 1]? = some y := ⟨u[i + 1], by simp [hlt2]⟩
              have hgy := bs_get u (i + 1) y hy
              have hdi2 : u.drop (i + 1) = y :: u.drop (i + 2) := by
                rw [List.drop_eq_getElem_cons hlt2]
                rw [List.getElem?_eq_getElem hlt2] at hy
                rw [Option.some.inj hy]
              have HD2 := Lib.hid hdi2
              clear hdi2 hy
              by_cases y34 : y = 34
              · subst y34
                go_wp2_with (go_at_call 137; refine (bwrite_any w1.heap.size w1.heap.size (Lib.byteCells acc) _ _ HB.out (by rw [Lib.byteCells_length]; omega) hBw).mono ?_; rintro e w2 ⟨rfl, hat, hbl⟩)
                go_roundg (u.length - (i + 2))
                case measure => omega
                case rel =>
                  have hA2 : litS (u.drop (i + 2)) (acc ++ [34]) = litS r [] := by
                    rw [← HA.out, HD.out, HD2.out]; simp [litS, litE]
                  have hB2 : Lib.IsBuilder 95 5 w1.heap.size w1.heap.size (Lib.byteCells (acc ++ [34])) w2 := Or.inr (by simpa [Lib.byteCells] using hat)
                  exact ⟨i + 2, acc ++ [34], by go_num, by omega, by omega, rfl, by simp; omega, hA2, BW.out.trans hbl, hB2⟩
              by_cases y92 : y = 92
              · subst y92
                go_wp2_with (go_at_call 137; refine (bwrite_any w1.heap.size w1.heap.size (Lib.byteCells acc) _ _ HB.out (by rw [Lib.byteCells_length]; omega) hBw).mono ?_; rintro e w2 ⟨rfl, hat, hbl⟩)
                go_roundg (u.length - (i + 2))
                case measure => omega
                case rel =>
                  have hA2 : litS (u.drop (i + 2)) (acc ++ [92]) = litS r [] := by
                    rw [← HA.out, HD.out, HD2.out]; simp [litS, litE]
                  have hB2 : Lib.IsBuilder 95 5 w1.heap.size w1.heap.size (Lib.byteCells (acc ++ [92])) w2 := Or.inr (by simpa [Lib.byteCells] using hat)
                  exact ⟨i + 2, acc ++ [92], by go_num, by omega, by omega, rfl, by simp; omega, hA2, BW.out.trans hbl, hB2⟩
              · have n34 : ((y.toNat : Int) == 34) = false := by
                  have : y.toNat ≠ 34 := fun e => y34 (UInt8.toNat_inj.1 e)
                  simp; omega
                have n92 : ((y.toNat : Int) == 92) = false := by
                  have : y.toNat ≠ 92 := fun e => y92 (UInt8.toNat_inj.1 e)
                  simp; omega
                have m34 : ((y.toNat : Int) != 34) = true := by simp [bne, n34]
                have m92 : ((y.toNat : Int) != 92) = true := by simp [bne, n92]
                go_wp2_with (go_at_call 60; refine (wanted_any _ _ (by decide)).mono ?_; rintro e w2 ⟨⟨why, rfl⟩, rfl⟩)
                go_ret2
                have hl : lit2 (litS r []) = none := by rw [← HA.out, HD.out, HD2.out]; simp [litS, litE, y34, y92, lit2]
                rw [hl]
                exact ⟨⟨_, rfl⟩, u, hu4, HW1.out.then BW.out⟩
            · have hq1 : (((i + 1 : Nat) : Int) == (u.length : Int)) = true := by simp; omega
              have hnil : u.drop (i + 1) = [] := List.drop_eq_nil_of_le (by omega)
              have HN := Lib.hid hnil
              clear hnil
              go_wp2_with (go_at_call 60; refine (wanted_any _ _ (by decide)).mono ?_; rintro e w2 ⟨⟨why, rfl⟩, rfl⟩)
              go_ret2
              have hl : lit2 (litS r []) = none := by rw [← HA.out, HD.out, HN.out]; rfl
              rw [hl]
              exact ⟨⟨_, rfl⟩, u, hu4, HW1.out.then BW.out⟩
          · have n92 : ((x.toNat : Int) == 92) = false := by
              have : x.toNat ≠ 92 := fun e => x92 (UInt8.toNat_inj.1 e)
              simp; omega
            go_wp2_with (go_at_call 137; refine (bwrite_any w1.heap.size w1.heap.size (Lib.byteCells acc) _ _ HB.out (by rw [Lib.byteCells_length]; omega) hBw).mono ?_; rintro e w2 ⟨rfl, hat, hbl⟩)
            go_roundg (u.length - (i + 1))
            case measure => omega
            case rel =>
              have hA2 : litS (u.drop (i + 1)) (acc ++ [x]) = litS r [] := by
                rw [← HA.out, HD.out]; simp [litS, litE, x34, x92]
              have hB2 : Lib.IsBuilder 95 5 w1.heap.size w1.heap.size (Lib.byteCells (acc ++ [x])) w2 := Or.inr (by simpa [Lib.byteCells] using hat)
              exact ⟨i + 1, acc ++ [x], by go_num, by omega, by omega, rfl, by simp; omega, hA2, BW.out.trans hbl, hB2⟩
      · have hltz : ¬ (i : Int) < (u.length : Int) := by omega
        have hnil : u.drop i = [] := List.drop_eq_nil_of_le (by omega)
        have HN := Lib.hid hnil
        clear hnil
        go_wp2_with (go_at_call 60; refine (wanted_any _ _ (by decide)).mono ?_; rintro e w2 ⟨⟨why, rfl⟩, rfl⟩)
        go_ret2
        have hl : lit2 (litS r []) = none := by rw [← HA.out, HN.out]; rfl
        rw [hl]
        exact ⟨⟨_, rfl⟩, u, hu4, HW1.out.then BW.out⟩
  · have hls : literalS s = none := literalS_other fun r hr => hq (by rw [hr]; rfl)
    rw [hls]
    clear hls ha hbig hul
    generalize trL s = u at *
    have hq2 : ((peekS u).2 : Int) ≠ 34 := by omega
    have hq3 : (((peekS u).2 : Int) == 34) = false := by simpa using hq2
    generalize (peekS u).2 = kd at *
    generalize (peekS u).1 = tk at *
    clear hq
    go_enter Tryz.func123, Tryz.ntmps123
    go_wp2_with (first
      | (go_at_call 59; refine HP.out.mono ?_; rintro e w1 ⟨rfl, hm⟩)
      | (go_at_call 60; refine (wanted_any _ _ (by decide)).mono ?_; rintro e w2 ⟨⟨why, rfl⟩, rfl⟩))
    go_ret2
    exact ⟨⟨_, rfl⟩, u, hu4, hm⟩
end Go.Proofs.YthpagppipifgeaaGreatDoor
