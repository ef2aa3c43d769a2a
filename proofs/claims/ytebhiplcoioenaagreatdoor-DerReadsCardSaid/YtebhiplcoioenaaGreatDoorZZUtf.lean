/- text.Utf8: the walk. -/
import Derived.Test.YtebhiplcoioenaaGreatDoorZZUtf0
import Derived.Test.YtebhiplcoioenaaGreatDoorZZGd
import Derived.Test.YtebhiplcoioenaaGreatDoorZZGrp
namespace Go.Proofs.YtebhiplcoioenaaGreatDoor
open Go.RowKit

theorem runeN_zero_or {a : UInt8} {r : Bs} : runeN (a :: r) ≤ (a :: r).length := by
  obtain ⟨_, h2, _, h4⟩ := rune_dec a r
  rw [h4]; split <;> omega
theorem utfF_any : ∀ (f g : Nat) (s : Bs), s.length ≤ f → s.length ≤ g → utfF f s = utfF g s
  | 0, 0, _, _, _ => rfl
  | 0, g + 1, s, hf, _ => by
    have : s = [] := List.eq_nil_of_length_eq_zero (by omega)
    subst this; rfl
  | f + 1, 0, s, _, hg => by
    have : s = [] := List.eq_nil_of_length_eq_zero (by omega)
    subst this; rfl
  | f + 1, g + 1, s, hf, hg => by
    rw [utfF, utfF]
    cases s with
    | nil => rfl
    | cons a r =>
      simp only [List.isEmpty_cons, Bool.false_eq_true, if_false]
      by_cases h : runeN (a :: r) = 0
      · rw [if_pos h, if_pos h]
      · rw [if_neg h, if_neg h]
        have hl : ((a :: r).drop (runeN (a :: r))).length < (a :: r).length := by rw [List.length_drop]; have := runeN_zero_or (a := a) (r := r); omega
        exact utfF_any f g _ (by omega) (by omega)
theorem utfB_step (a : UInt8) (r : Bs) : utfB (a :: r) = if runeN (a :: r) = 0 then false else utfB ((a :: r).drop (runeN (a :: r))) := by
  unfold utfB
  rw [show (a :: r).length = r.length + 1 from rfl, utfF]
  simp only [List.isEmpty_cons, Bool.false_eq_true, if_false]
  by_cases h : runeN (a :: r) = 0
  · rw [if_pos h, if_pos h]
  · rw [if_neg h, if_neg h]
    have hl : ((a :: r).drop (runeN (a :: r))).length < (a :: r).length := by rw [List.length_drop]; have := runeN_zero_or (a := a) (r := r); omega
    exact utfF_any _ _ _ (by simp at hl ⊢; omega) (Nat.le_refl _)
theorem info_i32 : (Tryz.prog.info? 21).map (fun i => (i.zero, i.size, i.bytes)) = some (some (.int .i32 0), 1, 4) := by kernel_rfl
/-- A slice of runes of one's own. -/
def OwnU (B : Nat) (w : World) (v : Value) (l : List Nat) : Prop := w.ownsRow B 21 1 v l.length (l.map fun n => .int .i32 (n : Nat))
theorem wp_snocU {w w1 : World} {B : Nat} {ops : Array Oper} {rest : List Oper} {o : Oper} {a : Act} {Q : Exit → Act → World → Prop} {v : Value} (hgd : o.guard = none) (s x : Operand) (ho : o.op = .call { callee := .builtin .append, args := #[s, x], argTypes := #[140, 140] })
    {l : List Nat} (c : Nat) (hsv : a.eval s = v) (hxv : a.eval x = .slice (some ⟨w1.heap.size, 0, none⟩) 1 1) (hO : OwnU B w1 v l) (hB : B ≤ w.heap.size) (hb : Below B w w1) (hk : l.length + 1 ≤ 3000000)
    (h : ∀ v' w2, OwnU B w2 v' (l ++ [c]) → Below B w w2 → wpList Tryz.prog ops Q rest (a.put o.dst v') w2) : wpList Tryz.prog ops Q (o :: rest) a (w1.alloc (.cells #[.int .i32 (c : Nat)] 21)) := by
  obtain ⟨i0, hi, hz0, hz1, hz2⟩ := info_parts info_i32
  refine wp_snoc hgd s x 140 21 ho Tryz.underlying140 hi hz0 hz1 hz2 rfl (by decide) [.int .i32 (c : Nat)] _ rfl hsv hxv hO hB hb rfl (by simp; rfl) hk (by decide) (fun v' w2 ho2 hb2 => h v' w2 ?_ hb2)
  unfold OwnU
  rw [List.length_append, List.map_append]; exact ho2
theorem ownU_nxt {B k : Nat} {w : World} {v : Value} {l : List Nat} {s : ByteArray} {p : Nat} {o : Obj} (h : OwnU B w v l) (hk : w.heap[k]? = some (.stringIter s p)) : OwnU B (nxt w k o) v l := by
  obtain ⟨hl, h | ⟨g, cap, cur, rfl, hg, hh, r⟩⟩ := h
  · exact ⟨hl, Or.inl h⟩
  · refine ⟨hl, Or.inr ⟨g, cap, cur, rfl, hg, ?_, r⟩⟩
    have hne : k ≠ g := fun e => by subst e; rw [hk] at hh; cases hh
    show (w.heap.setIfInBounds k o)[g]? = _
    rw [Array.getElem?_setIfInBounds_ne hne]; exact hh
theorem ownU_nil (B : Nat) (w : World) : OwnU B w (.slice none 0 0) [] := ⟨rfl, Or.inl ⟨rfl, rfl⟩⟩
def Nil? (b : Bool) (v : Value) : Prop := if b then v = .nilIface else ∃ u, v = .iface 184 u
set_option maxRecDepth 100000 in
set_option maxHeartbeats 8000000 in
theorem runes_any (s : Bs) (w : World) (hs : s.length ≤ 1048576) (hgd : Gd w) : Calls Tryz.prog 105 #[.string (bs s)] w fun e w' => (∃ v u, e = .returned (.tuple #[v, u]) ∧ Nil? (utfB s) u) ∧ Below w.heap.size w w' := by
  have zs := bs_size s
  have HGD := Lib.hid hgd
  have HHP : Hid (∀ t u, Calls Tryz.prog 124 #[.string (bs t), .string ⟨#[239, 191, 189]⟩] u fun e w' => e = .returned (.bool (Lib.hasPrefix t [239, 191, 189])) ∧ w' = u) := Lib.hid fun t u => by
    have := Tryz.strings_HasPrefix (bs t) ⟨#[239, 191, 189]⟩ u
    rw [bs_data] at this
    exact this
  have HAT : Hid (∀ (n : Nat) u, n ≤ 1048576 → Below w.heap.size w u → Calls Tryz.prog 125 #[.int .i64 (n : Nat), .int .i64 12] u fun en w' => (∃ v, en = .returned (.iface 184 v)) ∧ Below u.heap.size u w') := Lib.hid fun n u hn hb => at_any n 12 (by omega) u (HGD.out.below hb)
  obtain ⟨U, hU⟩ : ∃ U, U = utfB s := ⟨_, rfl⟩
  have HU := Lib.hid hU
  rw [← hU]
  clear hgd hU
  obtain ⟨gi, hgi⟩ : ∃ gi, gi = w.heap.size := ⟨_, rfl⟩
  go_enter Tryz.func105, Tryz.ntmps105
  go_wp2
  rw [← hgi]
  have HGI := Lib.hid hgi
  go_loopg [4, 5, 6] s.length (fun gg s4 _ _ wr => ∃ (i : Nat) (l : List Nat) (v : Value), i ≤ s.length ∧ gg = s.length - i ∧ s4 = v ∧ Aside (OwnU (gi + 1) wr v l ∧ l.length ≤ i) ∧ Aside (wr.heap[gi]? = some (.stringIter (bs s) i)) ∧ Aside (Below w.heap.size w wr ∧ U = utfB (s.drop i)))
  case atStart => exact ⟨0, [], _, by omega, rfl, rfl, ⟨ownU_nil _ _, Nat.le_refl _⟩, by rw [hgi]; exact World.iter_heap w (bs s) 0, ⟨(Below.refl _ _).alloc (Nat.le_refl _) _, HU.out⟩⟩
  case round =>
    obtain ⟨i, l, v, hi, rfl, rfl, HO, HI, HB⟩ := hrel
    clear hgi
    by_cases hlt : i < s.length
    · obtain ⟨x, hx⟩ : ∃ x, s[i]? = some x := ⟨s[i], List.getElem?_eq_getElem hlt⟩
      have hdr : s.drop i = x :: s.drop (i + 1) := by
        obtain ⟨hi2, e⟩ := List.getElem?_eq_some_iff.1 hx
        rw [← e]; exact List.drop_eq_getElem_cons hi2
      have hnx0 := fun ty => next_at (P := Tryz.prog) wr gi (bs s) i HI.out (by rw [zs]; exact hlt) ty
      obtain ⟨r1, r2, r3, r4⟩ := rune_dec x (s.drop (i + 1))
      rw [← hdr] at r1 r2 r3 r4
      have hst := utfB_step x (s.drop (i + 1))
      rw [← hdr] at hst
      rw [decL_is s i hi] at hnx0
      obtain ⟨c, n, hcn⟩ : ∃ c n, decL (s.drop i) = (c, n) := ⟨_, _, rfl⟩
      rw [hcn] at hnx0 r1 r2 r3 r4
      simp only at r1 r2 r3 r4
      have hnx := hnx0
      have hrl : n ≤ s.length - i := by rw [List.length_drop] at r2; exact r2
      have HW := Lib.hid (And.intro (nxt_at wr gi (.stringIter (bs s) (i + n)) _ HI.out) (And.intro (nxt_below HB.out.1 gi (.stringIter (bs s) (i + n)) (by have := HGI.out; omega)) (And.intro (ownU_nxt (o := .stringIter (bs s) (i + n)) HO.out.1 HI.out) (show gi + 1 ≤ _ from (Array.getElem?_eq_some_iff.1 (nxt_at wr gi (.stringIter (bs s) (i + n)) _ HI.out)).1))))
      have hsl : (bs s).extract i s.length = bs (s.drop i) := by rw [bs_cut, List.take_length]
      have HPC := Lib.hid (HHP.out (s.drop i))
      have hiz : (i : Int) ≤ (s.length : Int) := by omega
      clear hnx0 hcn hdr hx
      generalize hW2 : nxt wr gi (.stringIter (bs s) (i + n)) = W2 at *
      clear hW2
      generalize hPF : Lib.hasPrefix (s.drop i) [239, 191, 189] = pf at *
      clear hPF
      by_cases hc : c = 65533
      · have hcz : ((c : Int) == 65533) = true := by rw [hc]; rfl
        cases pf with
        | false =>
          have r5 : runeN (s.drop i) = 0 := by rw [r4, if_pos ⟨hc, rfl⟩]
          have HR : Hid (U = false) := Lib.hid (by rw [HB.out.2, hst, if_pos r5])
          have HA2 : Hid (Calls Tryz.prog 125 #[.int .i64 (i : Nat), .int .i64 12] W2 fun en w' => (∃ v, en = .returned (.iface 184 v)) ∧ Below W2.heap.size W2 w') := Lib.hid (HAT.out i W2 (by omega) HW.out.2.1)
          clear hst r4 r5 hc
          go_wp2_with (first
            | (go_at_call 124; refine (HPC.out _).mono ?_; rintro e w2 ⟨rfl, rfl⟩)
            | (go_at_call 125; refine HA2.out.mono ?_; rintro e w2 ⟨⟨va, rfl⟩, hb2⟩))
          go_ret2
          rw [HR.out]
          exact ⟨⟨_, _, rfl, ⟨_, rfl⟩⟩, HW.out.2.1.trans (hb2.mono HW.out.2.1.size)⟩
        | true =>
          have r5 : runeN (s.drop i) = n := by rw [r4, if_neg (fun h => absurd h.2 (by decide))]
          have HR : Hid (U = utfB (s.drop (i + n))) := Lib.hid (by
            rw [HB.out.2, hst, r5, if_neg (by omega), List.drop_drop])
          have hk : l.length + 1 ≤ 3000000 := by have := HO.out.2; omega
          have HLL : Hid ((l ++ [c]).length ≤ i + n) := Lib.hid (by rw [List.length_append]; have := HO.out.2; simp; omega)
          clear hst r4 r5 hc
          go_wp2_with (first
            | (go_at_call 124; refine (HPC.out _).mono ?_; rintro e w2 ⟨rfl, rfl⟩)
            | (at_builtin; refine wp_snocU (w := w2) (B := gi + 1) rfl _ _ (by rfl) c (by rfl) (by rfl) HW.out.2.2.1 HW.out.2.2.2 (Below.refl _ _) hk ?_; intro v' w3 hO3 hB3))
          go_roundg (s.length - (i + n))
          case measure => omega
          case rel => exact ⟨i + n, l ++ [c], v', by omega, rfl, rfl, ⟨hO3, HLL.out⟩, (hB3.block gi (by omega)).trans HW.out.1, ⟨HW.out.2.1.trans (hB3.mono (by have := HGI.out; omega)), HR.out⟩⟩
      · have hcz : ((c : Int) == 65533) = false := by simp; omega
        have r5 : runeN (s.drop i) = n := by rw [r4, if_neg (fun h => hc h.1)]
        have HR : Hid (U = utfB (s.drop (i + n))) := Lib.hid (by
          rw [HB.out.2, hst, r5, if_neg (by omega), List.drop_drop])
        have hk : l.length + 1 ≤ 3000000 := by have := HO.out.2; omega
        have HLL : Hid ((l ++ [c]).length ≤ i + n) := Lib.hid (by rw [List.length_append]; have := HO.out.2; simp; omega)
        clear hst r4 r5 hc
        go_wp2_with (at_builtin; refine wp_snocU (w := W2) (B := gi + 1) rfl _ _ (by rfl) c (by rfl) (by rfl) HW.out.2.2.1 HW.out.2.2.2 (Below.refl _ _) hk ?_; intro v' w3 hO3 hB3)
        go_roundg (s.length - (i + n))
        case measure => omega
        case rel => exact ⟨i + n, l ++ [c], v', by omega, rfl, rfl, ⟨hO3, HLL.out⟩, (hB3.block gi (by omega)).trans HW.out.1, ⟨HW.out.2.1.trans (hB3.mono (by have := HGI.out; omega)), HR.out⟩⟩
    · have hnx := fun ty => next_end (P := Tryz.prog) wr gi (bs s) i HI.out (by rw [zs]; exact hlt) ty
      have HR : Hid (U = true) := Lib.hid (by rw [HB.out.2, List.drop_of_length_le (by omega)]; rfl)
      clear hlt
      go_wp2
      go_ret2
      rw [HR.out]
      exact ⟨⟨_, _, rfl, rfl⟩, HB.out.1⟩
theorem Utf8_any (s : Bs) (w : World) (hs : s.length ≤ 1048576) (hgd : Gd w) : Calls Tryz.prog 87 #[.string (bs s)] w (RetB (utfB s) w) := by
  have HR := Lib.hid (runes_any s w hs hgd)
  clear hgd
  cases hb : utfB s with
  | true =>
    rw [hb] at HR
    have HR2 : Hid (Calls Tryz.prog 105 #[.string (bs s)] w fun e w' => (∃ v, e = .returned (.tuple #[v, .nilIface])) ∧ Below w.heap.size w w') := Lib.hid (HR.out.mono fun e w' ⟨⟨v, u, h1, h2⟩, h3⟩ => ⟨⟨v, by rw [h1, show u = .nilIface from h2]⟩, h3⟩)
    clear hb HR
    go_enter Tryz.func87, Tryz.ntmps87
    go_wp2_with (go_at_call 105; refine HR2.out.mono ?_; rintro e w2 ⟨⟨v, rfl⟩, hb2⟩)
    go_ret
    exact ⟨rfl, hb2⟩
  | false =>
    rw [hb] at HR
    have HR2 : Hid (Calls Tryz.prog 105 #[.string (bs s)] w fun e w' => (∃ v u, e = .returned (.tuple #[v, .iface 184 u])) ∧ Below w.heap.size w w') := Lib.hid (HR.out.mono fun e w' ⟨⟨v, u, h1, h2⟩, h3⟩ => by
      obtain ⟨u2, h2⟩ : ∃ u2, u = .iface 184 u2 := h2
      exact ⟨⟨v, u2, by rw [h1, h2]⟩, h3⟩)
    clear hb HR
    go_enter Tryz.func87, Tryz.ntmps87
    go_wp2_with (go_at_call 105; refine HR2.out.mono ?_; rintro e w2 ⟨⟨v, u, rfl⟩, hb2⟩)
    go_ret
    exact ⟨rfl, hb2⟩
end Go.Proofs.YtebhiplcoioenaaGreatDoor
