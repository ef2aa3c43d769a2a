/- ZRMom ZRMom2 ZRMom3 ZRMom4, in one text. -/
import Derived.Test.YtebhiplcoioenaaGreatDoorZZMom
import Derived.Test.YtebhiplcoioenaaGreatDoorZDG
import Derived.Test.YtebhiplcoioenaaGreatDoorZZRDays
import Derived.Test.YtebhiplcoioenaaGreatDoorZZGS
import Derived.Deep.LoopGhost
/- ostiaryref06.Moment: what it takes. -/
namespace Go.Proofs.YtebhiplcoioenaaGreatDoor
open Go.RowKit

def InZ (l : List Int) : List Value := l.map fun n => .int .i64 n
@[reducible] def OwnZ (B : Nat) (w : World) (v : Value) (l : List Int) : Prop := w.ownsRow B 3 1 v l.length (InZ l)
theorem wp_snocZ {w w1 : World} {B : Nat} {ops : Array Oper} {rest : List Oper} {o : Oper} {a : Act} {Q : Exit → Act → World → Prop} {v : Value} (hgd : o.guard = none) (s x : Operand) (ho : o.op = .call { callee := .builtin .append, args := #[s, x], argTypes := #[61, 61] })
    {l : List Int} (c : Int) (hsv : a.eval s = v) (hxv : a.eval x = .slice (some ⟨w1.heap.size, 0, none⟩) 1 1) (hO : OwnZ B w1 v l) (hB : B ≤ w.heap.size) (hb : Below B w w1) (hk : l.length + 1 ≤ 3000000)
    (h : ∀ v' w2, OwnZ B w2 v' (l ++ [c]) → Below B w w2 → wpList Tryz.prog ops Q rest (a.put o.dst v') w2) : wpList Tryz.prog ops Q (o :: rest) a (w1.alloc (.cells #[.int .i64 c] 3)) := by
  obtain ⟨i0, hi, hz0, hz1, hz2⟩ := info_parts info_int
  refine wp_snoc hgd s x 61 3 ho Tryz.underlying61 hi hz0 hz1 hz2 rfl (by decide) [.int .i64 c] _ rfl hsv hxv hO hB hb rfl (by simp; rfl) hk (by decide) (fun v' w2 ho2 hb2 => h v' w2 ?_ hb2)
  unfold OwnZ InZ
  rw [List.length_append, List.map_append]; exact ho2
theorem own_newZ (l : List Int) (cs : Array Value) (hcs : cs = (InZ l).toArray) (u : World) (hm : l.length ≤ 8) {B : Nat} (hB : B ≤ u.heap.size) : OwnZ B (u.alloc (.cells cs 3)) (.slice (some ⟨u.heap.size, 0, none⟩) l.length l.length) l := by
  have hlen : cs.size = l.length := by rw [hcs]; simp [InZ]
  exact ⟨by simp [InZ], Or.inr ⟨u.heap.size, l.length, cs, rfl, hB, heap_alloc_new _ _, Nat.le_refl _, by unfold maxLen; omega, by rw [hlen]; simp, by rw [hcs, Nat.mul_one]; simp only [InZ]; exact List.take_of_length_le (by simp)⟩⟩
theorem OwnZ.cells {B : Nat} {w : World} {v : Value} {l : List Int} (h : OwnZ B w v l) (h0 : 0 < l.length) : ∃ g cap, v = .slice (some ⟨g, 0, none⟩) l.length cap ∧ l.length ≤ cap ∧ g < w.heap.size ∧ ∀ (j : Nat) x, l[j]? = some x → w.cell? ⟨g, j, none⟩ = some (.int .i64 x) := by
  have ho := h
  obtain ⟨hl, ⟨rfl, h1⟩ | ⟨g, cap, cur, rfl, hg, hh, hn, hcm, hcs, htk⟩⟩ := h
  · omega
  · have hc := World.ownsRow.cells ho (g := g) rfl
    refine ⟨g, cap, rfl, hn, (Array.getElem?_eq_some_iff.1 hh).1, fun j x hj => ?_⟩
    have := hc j (.int .i64 x) (by unfold InZ; rw [List.getElem?_map, hj]; rfl)
    rw [Addr.add_lit, Nat.zero_add] at this
    exact this
/-- The number of a piece of a text. -/
def pcS (L : Bs) (a b : Nat) : Int := digS ((L.take b).drop a)
/-- The six numbers of a time's text. -/
def sixS (L : Bs) : List Int := [pcS L 0 4, pcS L 4 6, pcS L 6 8, pcS L 8 10, pcS L 10 12, pcS L 12 14]
theorem six_at (L : Bs) (j : Nat) (h : j < 5) : (sixS L)[j + 1]? = some (pcS L (4 + 2 * j) (4 + 2 * j + 2)) := by
  match j, h with
  | 0, _ => rfl
  | 1, _ => rfl
  | 2, _ => rfl
  | 3, _ => rfl
  | 4, _ => rfl
theorem six_take (L : Bs) (j : Nat) (h : j < 5) : (sixS L).take (j + 1) ++ [pcS L (4 + 2 * j) (4 + 2 * j + 2)] = (sixS L).take (j + 1 + 1) := by
  match j, h with
  | 0, _ => rfl
  | 1, _ => rfl
  | 2, _ => rfl
  | 3, _ => rfl
  | 4, _ => rfl
theorem pc_dig {L : Bs} {a b : Nat} (h : b ≤ 14) (hd : 0 ≤ digS (L.take 14)) : 0 ≤ pcS L a b := (digS_iff _).2 fun c hc => (digS_iff _).1 hd c (by
  have h1 := List.mem_of_mem_drop hc
  rw [show L.take b = (L.take 14).take b by rw [List.take_take, Nat.min_eq_left h]] at h1
  exact List.mem_of_mem_take h1)
theorem pcs_all {L : Bs} (h : ∀ x, x ∈ sixS L → 0 ≤ x) : 0 ≤ digS (L.take 14) := by
  refine (digS_iff _).2 fun c hc => ?_
  have hcat : L.take 14 = (L.take 4).drop 0 ++ ((L.take 6).drop 4 ++ ((L.take 8).drop 6 ++ ((L.take 10).drop 8 ++ ((L.take 12).drop 10 ++ (L.take 14).drop 12)))) := by
    have key : ∀ a b, a ≤ b → L.take b = L.take a ++ (L.take b).drop a := fun a b hab => by
      have := (List.take_append_drop a (L.take b)).symm
      rw [List.take_take, Nat.min_eq_left hab] at this
      exact this
    conv => lhs; rw [key 12 14 (by decide), key 10 12 (by decide), key 8 10 (by decide), key 6 8 (by decide), key 4 6 (by decide)]
    simp only [List.append_assoc, List.drop_zero]
  rw [hcat] at hc
  simp only [List.mem_append] at hc
  rcases hc with hc | hc | hc | hc | hc | hc
  · exact (digS_iff _).1 (h (pcS L 0 4) (by simp [sixS])) c hc
  · exact (digS_iff _).1 (h (pcS L 4 6) (by simp [sixS])) c hc
  · exact (digS_iff _).1 (h (pcS L 6 8) (by simp [sixS])) c hc
  · exact (digS_iff _).1 (h (pcS L 8 10) (by simp [sixS])) c hc
  · exact (digS_iff _).1 (h (pcS L 10 12) (by simp [sixS])) c hc
  · exact (digS_iff _).1 (h (pcS L 12 14) (by simp [sixS])) c hc
theorem long_neg {L : Bs} {j : Nat} {x : Int} (h : (sixS L)[j]? = some x) (hx : x < 0) : longS L = none := by
  unfold longS
  refine if_pos (Or.inr (Or.inr ?_))
  have hm := List.mem_of_getElem? h
  refine Classical.byContradiction fun hd => ?_
  have hd : 0 ≤ digS (L.take 14) := by omega
  simp only [sixS, List.mem_cons, List.not_mem_nil, or_false] at hm
  rcases hm with rfl | rfl | rfl | rfl | rfl | rfl
  · have := pc_dig (L := L) (a := 0) (b := 4) (by decide) hd
    omega
  · have := pc_dig (L := L) (a := 4) (b := 6) (by decide) hd
    omega
  · have := pc_dig (L := L) (a := 6) (b := 8) (by decide) hd
    omega
  · have := pc_dig (L := L) (a := 8) (b := 10) (by decide) hd
    omega
  · have := pc_dig (L := L) (a := 10) (b := 12) (by decide) hd
    omega
  · have := pc_dig (L := L) (a := 12) (b := 14) (by decide) hd
    omega
theorem pc_lt {L : Bs} {a k n : Nat} (hn : k ≤ n) (h : 0 ≤ pcS L a (a + k)) : pcS L a (a + k) < ((10 ^ n : Nat) : Int) :=
  digS_lt _ ((digS_iff _).1 h) (by simp; omega)
/-- Where all are numbers. -/
theorem long_six {L : Bs} (h15 : L.length = 15) (h90 : L[14]? = some 90) (h : ∀ (j : Nat) x, (sixS L)[j]? = some x → 0 ≤ x) : ∃ y m d hh i s : Nat, sixS L = [(y : Int), m, d, hh, i, s] ∧ y < 10000 ∧ m < 100 ∧ d < 100 ∧ hh < 100 ∧ i < 100 ∧ s < 100 ∧ longS L = timeS y m d hh i s := by
  have p0 : 0 ≤ pcS L 0 4 := h 0 _ rfl
  have p1 : 0 ≤ pcS L 4 6 := h 1 _ rfl
  have p2 : 0 ≤ pcS L 6 8 := h 2 _ rfl
  have p3 : 0 ≤ pcS L 8 10 := h 3 _ rfl
  have p4 : 0 ≤ pcS L 10 12 := h 4 _ rfl
  have p5 : 0 ≤ pcS L 12 14 := h 5 _ rfl
  have l0 := pc_lt (L := L) (a := 0) (k := 4) (n := 4) (by decide) p0
  have l1 := pc_lt (L := L) (a := 4) (k := 2) (n := 2) (by decide) p1
  have l2 := pc_lt (L := L) (a := 6) (k := 2) (n := 2) (by decide) p2
  have l3 := pc_lt (L := L) (a := 8) (k := 2) (n := 2) (by decide) p3
  have l4 := pc_lt (L := L) (a := 10) (k := 2) (n := 2) (by decide) p4
  have l5 := pc_lt (L := L) (a := 12) (k := 2) (n := 2) (by decide) p5
  have hd : 0 ≤ digS (L.take 14) := pcs_all fun x hx => by
    obtain ⟨j, hj⟩ := List.getElem?_of_mem hx
    exact h j x hj
  refine ⟨(pcS L 0 4).toNat, (pcS L 4 6).toNat, (pcS L 6 8).toNat, (pcS L 8 10).toNat, (pcS L 10 12).toNat, (pcS L 12 14).toNat, ?_, ?_, ?_, ?_, ?_, ?_, ?_, ?_⟩
  · unfold sixS
    rw [Int.toNat_of_nonneg p0, Int.toNat_of_nonneg p1, Int.toNat_of_nonneg p2, Int.toNat_of_nonneg p3, Int.toNat_of_nonneg p4, Int.toNat_of_nonneg p5]
  · have : pcS L 0 4 < 10000 := l0
    omega
  · have : pcS L 4 6 < 100 := l1
    omega
  · have : pcS L 6 8 < 100 := l2
    omega
  · have : pcS L 8 10 < 100 := l3
    omega
  · have : pcS L 10 12 < 100 := l4
    omega
  · have : pcS L 12 14 < 100 := l5
    omega
  · unfold longS pcS
    rw [if_neg (by rw [h90]; simp; omega)]
    simp only [List.drop_zero, List.take_drop]
end Go.Proofs.YtebhiplcoioenaaGreatDoor
/- ostiaryref06.Moment: the walk (gen_zrmom.py). -/
namespace Go.Proofs.YtebhiplcoioenaaGreatDoor
open Go.RowKit

theorem bin_lssI (a b : Int) {r : Bool} (h : decide (a < b) = r) (W : World) : (binOp .lss 3 (.int .i64 a) (.int .i64 b)).run Tryz.prog W = .ok (.bool r) W := by
  rw [← h]; kernel_rfl
theorem bin_gtrI (a b : Int) {r : Bool} (h : decide (b < a) = r) (W : World) : (binOp .gtr 3 (.int .i64 a) (.int .i64 b)).run Tryz.prog W = .ok (.bool r) W := by
  rw [← h]; kernel_rfl
set_option maxRecDepth 100000 in
set_option maxHeartbeats 8000000 in
theorem rmom_24 (L : Bs) (w : World) (_hL : L.length ≤ SB) : Calls Tryz.prog 52 #[.int .i64 24, .string (bs L)] w fun e w' => e = .returned (momV (longS L)) ∧ Below w.heap.size w w' := by
  have hSB := SB_eq
  have zs := bs_size L
  go_enter Tryz.func52, Tryz.ntmps52
  go_upto_region 7 with fail
  by_cases hl : L.length = 15
  case neg =>
    have q1 : ((L.length : Int) != 15) = true := by simp; omega
    have HR : Hid (longS L = none) := Lib.hid (by unfold longS; rw [if_pos (Or.inl hl)])
    clear hl
    go_wp2_with fail
    go_ret2
    rw [HR.out]
    exact ⟨rfl, Below.refl _ _⟩
  obtain ⟨x, hx⟩ : ∃ x, L[14]? = some x := ⟨L[14], List.getElem?_eq_getElem (by omega)⟩
  have hg := bs_get L 14 x hx
  rw [hl] at zs
  by_cases hxz : x = 90
  case neg =>
    have q1 : ((x.toNat : Int) != 90) = true := by
      have : x.toNat ≠ 90 := fun e => hxz (by rw [← u8_back x, e]; rfl)
      simp; omega
    have HR : Hid (longS L = none) := Lib.hid (by unfold longS; rw [if_pos (Or.inr (Or.inl (by rw [hx]; simpa using hxz)))])
    clear hx hxz
    go_wp2_with fail
    go_ret2
    rw [HR.out]
    exact ⟨rfl, Below.refl _ _⟩
  subst hxz
  have HNU : Hid (∀ a b u, Calls Tryz.prog 48 #[.string ((bs L).extract a b)] u fun e w' => e = .returned (.int .i64 (pcS L a b)) ∧ u = w') := Lib.hid fun a b u => by
    have := number_low ((L.take b).drop a) u (by simp; omega)
    rw [← bs_cut] at this
    exact this.mono fun _ _ hh => ⟨hh.1, hh.2.symm⟩
  have HX := Lib.hid (And.intro hl hx)
  clear hx hl
  go_upto_region 11 with (go_at_call 48; refine (HNU.out _ _ _).mono ?_; rintro e w1 ⟨rfl, rfl⟩)
  have hO0 := own_newZ [pcS L 0 4] #[.int .i64 (pcS L 0 4)] rfl w (by simp) (Nat.le_refl _)
  have hb0 := b_alloc w (.cells #[.int .i64 (pcS L 0 4)] 3)
  generalize w.alloc (.cells #[.int .i64 (pcS L 0 4)] 3) = w1 at *
  have HO0 := Lib.hid hO0
  have HB0 := Lib.hid hb0
  clear hO0 hb0
  go_loopg [6, 7] 5 (fun gg s6 s7 wr => ∃ (j : Nat) (V : Value), j + gg = 5 ∧ s6 = V ∧ s7 = .int .i64 ((4 + 2 * j : Nat) : Int) ∧ Aside (OwnZ w.heap.size wr V ((sixS L).take (j + 1))) ∧ Aside (Below w.heap.size w wr))
  case atStart => exact ⟨0, _, rfl, rfl, rfl, HO0.out, HB0.out⟩
  case round =>
    obtain ⟨j, V, hj, rfl, rfl, HO, HB⟩ := hrel
    clear HO0 HB0
    cases gk with
    | succ gk =>
      have hjl : j < 5 := by omega
      have hjz : ((4 + 2 * j : Nat) : Int) < 14 := by omega
      have hl6 : ((sixS L).take (j + 1)).length + 1 ≤ 3000000 := by
        have : ((sixS L).take (j + 1)).length ≤ (sixS L).length := by rw [List.length_take]; exact Nat.min_le_right _ _
        have h6 : (sixS L).length = 6 := rfl
        omega
      go_wp2_with (first
        | (go_at_call 48; refine (HNU.out _ _ _).mono ?_; rintro e w2 ⟨rfl, rfl⟩)
        | (refine wp_snocZ (w := w) (B := w.heap.size) rfl _ _ (by rfl) (pcS L (4 + 2 * j) (4 + 2 * j + 2)) (by rfl) (by rfl) HO.out (Nat.le_refl _) HB.out hl6 ?_; intro v3 w3 hO3 hb3))
      go_roundg gk
      case measure => omega
      case rel => exact ⟨j + 1, _, by omega, rfl, by go_num, by rw [← six_take L j hjl]; exact hO3, hb3⟩
    | zero =>
      obtain rfl : j = 5 := by omega
      have hO := HO.out
      have h6 : (sixS L).take (5 + 1) = sixS L := rfl
      rw [h6] at hO
      obtain ⟨g, cap, rfl, hcap, hgl, hcs⟩ := OwnZ.cells hO (by show 0 < 6; decide)
      have HCS := Lib.hid hcs
      clear hcs hO h6 HO HNU
      go_upto_region 15 with fail
      go_loopg [8] 6 (fun gg s8 wx => ∃ i : Nat, i + gg = 6 ∧ s8 = .int .i64 i ∧ Aside (∀ (j : Nat) x, j < i → (sixS L)[j]? = some x → 0 ≤ x) ∧ wx = wr)
      case atStart => exact ⟨0, rfl, rfl, fun j x h => absurd h (Nat.not_lt_zero _), rfl⟩
      case round =>
        obtain ⟨i, hi, rfl, HP, rfl⟩ := hrel
        cases gk with
        | succ gk =>
          have hil : i < 6 := by omega
          have hiz : (i : Int) < 6 := by omega
          obtain ⟨z, hz⟩ : ∃ z, (sixS L)[i]? = some z := ⟨(sixS L)[i]'(by show i < 6; exact hil), List.getElem?_eq_getElem _⟩
          have hci := HCS.out i z hz
          have HZ := Lib.hid hz
          clear hz
          by_cases hneg : z < 0
          · have HR : Hid (longS L = none) := Lib.hid (long_neg HZ.out hneg)
            go_wp2_with fail
            go_ret2
            rw [HR.out]
            exact ⟨rfl, HB.out⟩
          · have HP2 : Hid (∀ (j : Nat) x, j < i + 1 → (sixS L)[j]? = some x → 0 ≤ x) := Lib.hid fun j x hj hx => by
              rcases Nat.lt_or_ge j i with h | h
              · exact HP.out j x h hx
              · obtain rfl : j = i := by omega
                rw [HZ.out] at hx
                cases hx
                omega
            clear HP
            go_wp2_with fail
            go_roundg gk
            case measure => omega
            case rel => exact ⟨i + 1, by omega, by go_num, HP2.out, rfl⟩
        | zero =>
          have hiz : ¬ (i : Int) < 6 := by omega
          obtain ⟨y, m, d, h, ii, s, h6, by0, bm, bd, bh, bi, bz, hls⟩ := long_six HX.out.1 HX.out.2 (fun j x hx => HP.out j x (by have := (List.getElem?_eq_some_iff.1 hx).1; have h6 : (sixS L).length = 6 := rfl; omega) hx)
          have c0 := HCS.out 0 (y : Int) (by rw [h6]; rfl)
          have c1 := HCS.out 1 (m : Int) (by rw [h6]; rfl)
          have c2 := HCS.out 2 (d : Int) (by rw [h6]; rfl)
          have c3 := HCS.out 3 (h : Int) (by rw [h6]; rfl)
          have c4 := HCS.out 4 (ii : Int) (by rw [h6]; rfl)
          have c5 := HCS.out 5 (s : Int) (by rw [h6]; rfl)
          have HR := Lib.hid hls
          have hs6 : (sixS L).length = 6 := rfl
          clear HP HCS h6 hls
          have HDA : Hid (m < 1 ∨ 12 < m ∨ ∀ u, Calls Tryz.prog 57 #[.int .i64 (y : Nat), .int .i64 (m : Nat)] u fun e w' => e = .returned (.int .i64 (lenM y m : Nat)) ∧ Below u.heap.size u w') := Lib.hid (by
            by_cases h1 : m < 1
            · exact Or.inl h1
            · by_cases h2 : 12 < m
              · exact Or.inr (Or.inl h2)
              · exact Or.inr (Or.inr fun u => days_any y m u (by omega) (by omega) (by omega)))
          obtain ⟨LM, hLM⟩ : ∃ LM, LM = lenM y m := ⟨_, rfl⟩
          have HLM := Lib.hid hLM
          rw [← hLM] at HDA
          clear hLM
          go_upto_region 19 with fail
          by_cases q : m < 1
          · have HR2 : Hid (longS L = none) := Lib.hid (by rw [HR.out]; unfold timeS; rw [if_pos (by rw [← HLM.out]; exact Or.inl q)])
            have zz0 : (m : Int) < (1 : Int) := by omega
            go_quiet (fail)
            go_wp2_with fail
            go_ret2
            rw [HR2.out]
            exact ⟨rfl, below_drawn HB.out _⟩
          have n0 : ¬ (m : Int) < (1 : Int) := by omega
          have r0 := q
          clear q
          by_cases q : 12 < m
          · have HR2 : Hid (longS L = none) := Lib.hid (by rw [HR.out]; unfold timeS; rw [if_pos (by rw [← HLM.out]; exact Or.inr (Or.inl q))])
            have zz1 : (12 : Int) < (m : Int) := by omega
            go_quiet (fail)
            go_wp2_with fail
            go_ret2
            rw [HR2.out]
            exact ⟨rfl, below_drawn HB.out _⟩
          have n1 : ¬ (12 : Int) < (m : Int) := by omega
          have r1 := q
          clear q
          by_cases q : d < 1
          · have HR2 : Hid (longS L = none) := Lib.hid (by rw [HR.out]; unfold timeS; rw [if_pos (by rw [← HLM.out]; exact Or.inr (Or.inr (Or.inl q)))])
            have zz2 : (d : Int) < (1 : Int) := by omega
            go_quiet (fail)
            go_wp2_with fail
            go_ret2
            rw [HR2.out]
            exact ⟨rfl, below_drawn HB.out _⟩
          have n2 : ¬ (d : Int) < (1 : Int) := by omega
          have r2 := q
          clear q
          have HDR : Hid (∀ u, Below wr.heap.size wr u → Calls Tryz.prog 57 #[.int .i64 (y : Nat), .int .i64 (m : Nat)] u (RW (Is (.int .i64 (LM : Nat))) u)) := Lib.hid fun u _ => by
            rcases HDA.out with h1 | h1 | h1
            · exact absurd h1 r0
            · exact absurd h1 r1
            · exact (h1 u).mono fun e w' hh => rw_below hh
          have z0 : decide ((m : Int) < 1) = false := decide_eq_false (by omega)
          have z1 : decide ((12 : Int) < m) = false := decide_eq_false (by omega)
          have z2 : decide ((d : Int) < 1) = false := decide_eq_false (by omega)
          have hRs : Rws w.heap.size w wr [] := ⟨HB.out, HB.out.size, fun _ h => absurd h List.not_mem_nil, List.Pairwise.nil⟩
          have HC0 : Hid (∀ u : World, Below wr.heap.size wr u → u.cell? ⟨g, 0 + 0 * 1, none⟩ = some (.int .i64 (y : Nat))) := Lib.hid fun u hu => (hu.cell (p := ⟨g, 0, none⟩) hgl).trans c0
          have HC1 : Hid (∀ u : World, Below wr.heap.size wr u → u.cell? ⟨g, 0 + 1 * 1, none⟩ = some (.int .i64 (m : Nat))) := Lib.hid fun u hu => (hu.cell (p := ⟨g, 1, none⟩) hgl).trans c1
          have HC2 : Hid (∀ u : World, Below wr.heap.size wr u → u.cell? ⟨g, 0 + 2 * 1, none⟩ = some (.int .i64 (d : Nat))) := Lib.hid fun u hu => (hu.cell (p := ⟨g, 2, none⟩) hgl).trans c2
          have HC3 : Hid (∀ u : World, Below wr.heap.size wr u → u.cell? ⟨g, 0 + 3 * 1, none⟩ = some (.int .i64 (h : Nat))) := Lib.hid fun u hu => (hu.cell (p := ⟨g, 3, none⟩) hgl).trans c3
          have HC4 : Hid (∀ u : World, Below wr.heap.size wr u → u.cell? ⟨g, 0 + 4 * 1, none⟩ = some (.int .i64 (ii : Nat))) := Lib.hid fun u hu => (hu.cell (p := ⟨g, 4, none⟩) hgl).trans c4
          have HC5 : Hid (∀ u : World, Below wr.heap.size wr u → u.cell? ⟨g, 0 + 5 * 1, none⟩ = some (.int .i64 (s : Nat))) := Lib.hid fun u hu => (hu.cell (p := ⟨g, 5, none⟩) hgl).trans c5
          by_cases q : LM < d
          · have HR2 : Hid (longS L = none) := Lib.hid (by rw [HR.out]; unfold timeS; rw [if_pos (by rw [← HLM.out]; exact Or.inr (Or.inr (Or.inr (Or.inl q))))])
            have z3 : decide ((LM : Int) < (d : Int)) = true := decide_eq_true (by omega)
            refine wp_region_softG 46 (by kernel_rfl) (by kernel_rfl) (by rfl) hRs ?_
            refine g_move (R := Is (.slice (some ⟨g, 0, none⟩) 6 cap)) (by rfl) (stb_is _) (by exact fun _ _ _ h => h) ?_
            refine g_ixi (b := g) (f := 0) (len := 6) (c := cap) (i := 1) (by rfl) (by exact fun _ _ _ h => h) (by exact fun _ _ _ h => h) (by decide) ?_
            refine g_cellw (g := g) (k := 0 + 1 * 1) (v := .int .i64 (m : Nat)) (R := Is (.int .i64 (m : Nat))) (by rfl) (by exact fun _ _ _ h => h) (HC1.out) isAgg_int (stb_is _) (by exact fun _ _ => rfl) ?_
            refine g_bin (v := .int .i64 (m : Nat)) (u := .int .i64 1) (r := .bool false) (by rfl) (by exact fun _ _ _ h => h) (by exact fun _ _ _ h => h) (by rfl) (fun W => bin_lssI (r := false) _ _ z0 W) ?_
            refine g_move (R := Is (.bool false)) (by rfl) (stb_is _) (by exact fun _ _ _ h => h) ?_
            refine g_move (R := Is (.slice (some ⟨g, 0, none⟩) 6 cap)) (by rfl) (stb_is _) (by exact fun _ _ _ h => h) ?_
            refine g_ixi (b := g) (f := 0) (len := 6) (c := cap) (i := 1) (by rfl) (by exact fun _ _ _ h => h) (by exact fun _ _ _ h => h) (by decide) ?_
            refine g_cellw (g := g) (k := 0 + 1 * 1) (v := .int .i64 (m : Nat)) (R := Is (.int .i64 (m : Nat))) (by rfl) (by exact fun _ _ _ h => h) (HC1.out) isAgg_int (stb_is _) (by exact fun _ _ => rfl) ?_
            refine g_bin (v := .int .i64 (m : Nat)) (u := .int .i64 12) (r := .bool false) (by rfl) (by exact fun _ _ _ h => h) (by exact fun _ _ _ h => h) (by rfl) (fun W => bin_gtrI (r := false) _ _ z1 W) ?_
            refine g_pick (b := false) (R := Is (.bool false)) (by rfl) (by exact fun _ _ _ h => h) (stb_is _) (by exact fun _ _ _ h => h) ?_
            refine g_move (R := Is (.bool false)) (by rfl) (stb_is _) (by exact fun _ _ _ h => h) ?_
            refine g_move (R := Is (.slice (some ⟨g, 0, none⟩) 6 cap)) (by rfl) (stb_is _) (by exact fun _ _ _ h => h) ?_
            refine g_ixi (b := g) (f := 0) (len := 6) (c := cap) (i := 2) (by rfl) (by exact fun _ _ _ h => h) (by exact fun _ _ _ h => h) (by decide) ?_
            refine g_cellw (g := g) (k := 0 + 2 * 1) (v := .int .i64 (d : Nat)) (R := Is (.int .i64 (d : Nat))) (by rfl) (by exact fun _ _ _ h => h) (HC2.out) isAgg_int (stb_is _) (by exact fun _ _ => rfl) ?_
            refine g_bin (v := .int .i64 (d : Nat)) (u := .int .i64 1) (r := .bool false) (by rfl) (by exact fun _ _ _ h => h) (by exact fun _ _ _ h => h) (by rfl) (fun W => bin_lssI (r := false) _ _ z2 W) ?_
            refine g_pick (b := false) (R := Is (.bool false)) (by rfl) (by exact fun _ _ _ h => h) (stb_is _) (by exact fun _ _ _ h => h) ?_
            refine g_move (R := Is (.bool false)) (by rfl) (stb_is _) (by exact fun _ _ _ h => h) ?_
            refine g_move (R := Is (.slice (some ⟨g, 0, none⟩) 6 cap)) (by rfl) (stb_is _) (by exact fun _ _ _ h => h) ?_
            refine g_ixi (b := g) (f := 0) (len := 6) (c := cap) (i := 2) (by rfl) (by exact fun _ _ _ h => h) (by exact fun _ _ _ h => h) (by decide) ?_
            refine g_cellw (g := g) (k := 0 + 2 * 1) (v := .int .i64 (d : Nat)) (R := Is (.int .i64 (d : Nat))) (by rfl) (by exact fun _ _ _ h => h) (HC2.out) isAgg_int (stb_is _) (by exact fun _ _ => rfl) ?_
            refine g_move (R := Is (.slice (some ⟨g, 0, none⟩) 6 cap)) (by rfl) (stb_is _) (by exact fun _ _ _ h => h) ?_
            refine g_ixi (b := g) (f := 0) (len := 6) (c := cap) (i := 0) (by rfl) (by exact fun _ _ _ h => h) (by exact fun _ _ _ h => h) (by decide) ?_
            refine g_cellw (g := g) (k := 0 + 0 * 1) (v := .int .i64 (y : Nat)) (R := Is (.int .i64 (y : Nat))) (by rfl) (by exact fun _ _ _ h => h) (HC0.out) isAgg_int (stb_is _) (by exact fun _ _ => rfl) ?_
            refine g_move (R := Is (.slice (some ⟨g, 0, none⟩) 6 cap)) (by rfl) (stb_is _) (by exact fun _ _ _ h => h) ?_
            refine g_ixi (b := g) (f := 0) (len := 6) (c := cap) (i := 1) (by rfl) (by exact fun _ _ _ h => h) (by exact fun _ _ _ h => h) (by decide) ?_
            refine g_cellw (g := g) (k := 0 + 1 * 1) (v := .int .i64 (m : Nat)) (R := Is (.int .i64 (m : Nat))) (by rfl) (by exact fun _ _ _ h => h) (HC1.out) isAgg_int (stb_is _) (by exact fun _ _ => rfl) ?_
            refine g_callK (f := 57) (xs := [.tmp 86, .tmp 89]) [.int .i64 (y : Nat), .int .i64 (m : Nat)] (R := Is (.int .i64 (LM : Nat))) (by rfl) Tryz.func57 (by kernel_rfl) rfl (stb_is _) ⟨(by exact fun _ _ _ h => h), (by exact fun _ _ _ h => h), trivial⟩ (HDR.out) ?_
            refine g_bin (v := .int .i64 (d : Nat)) (u := .int .i64 (LM : Nat)) (r := .bool true) (by rfl) (by exact fun _ _ _ h => h) (by exact fun _ _ _ h => h) (by rfl) (fun W => bin_gtrI (r := true) _ _ z3 W) ?_
            refine g_pick (b := false) (R := Is (.bool true)) (by rfl) (by exact fun _ _ _ h => h) (stb_is _) (by exact fun _ _ _ h => h) ?_
            refine g_move (R := Is (.bool true)) (by rfl) (stb_is _) (by exact fun _ _ _ h => h) ?_
            refine g_dead (dead_of rfl rfl (fun _ _ _ h => h) (by rfl)) ?_
            refine g_dead (dead_of rfl rfl (fun _ _ _ h => h) (by rfl)) ?_
            refine g_dead (dead_of rfl rfl (fun _ _ _ h => h) (by rfl)) ?_
            refine g_dead (dead_of rfl rfl (fun _ _ _ h => h) (by rfl)) ?_
            refine g_pick (b := true) (R := Is (.bool true)) (by rfl) (by exact fun _ _ _ h => h) (stb_is _) (by exact fun _ _ _ h => h) ?_
            refine g_move (R := Is (.bool true)) (by rfl) (stb_is _) (by exact fun _ _ _ h => h) ?_
            refine g_dead (dead_of rfl rfl (fun _ _ _ h => h) (by rfl)) ?_
            refine g_dead (dead_of rfl rfl (fun _ _ _ h => h) (by rfl)) ?_
            refine g_dead (dead_of rfl rfl (fun _ _ _ h => h) (by rfl)) ?_
            refine g_dead (dead_of rfl rfl (fun _ _ _ h => h) (by rfl)) ?_
            refine g_pick (b := true) (R := Is (.bool true)) (by rfl) (by exact fun _ _ _ h => h) (stb_is _) (by exact fun _ _ _ h => h) ?_
            refine g_move (R := Is (.bool true)) (by rfl) (stb_is _) (by exact fun _ _ _ h => h) ?_
            refine g_dead (dead_of rfl rfl (fun _ _ _ h => h) (by rfl)) ?_
            refine g_dead (dead_of rfl rfl (fun _ _ _ h => h) (by rfl)) ?_
            refine g_dead (dead_of rfl rfl (fun _ _ _ h => h) (by rfl)) ?_
            refine g_dead (dead_of rfl rfl (fun _ _ _ h => h) (by rfl)) ?_
            intro w13 hR13 hb13 v64 h64 v65 h65 v66 h66 v67 h67 v68 h68 v69 h69 v70 h70 v71 h71 v72 h72 v73 h73 v74 h74 v75 h75 v76 h76 v77 h77 v78 h78 v79 h79 v80 h80 v81 h81 v82 h82 v83 h83 v84 h84 v85 h85 v86 h86 v87 h87 v88 h88 v89 h89 v90 h90 v91 h91 v92 h92 v93 h93 v94 h94 v95 h95 v96 h96 v97 h97 v98 h98 v99 h99 v100 h100 v101 h101 v102 h102 v103 h103 v104 h104 v105 h105 v106 h106 v107 h107 v108 h108 v109 h109
            simp only [softEnd, Act.put, List.setIfInBounds_toArray, List.set_cons_succ, List.set_cons_zero, List.drop_succ_cons, List.drop_zero]
            obtain rfl : v105 = .bool true := h105
            clear h64 h65 h66 h67 h68 h69 h70 h71 h72 h73 h74 h75 h76 h77 h78 h79 h80 h81 h82 h83 h84 h85 h86 h87 h88 h89 h90 h91 h92 h93 h94 h95 h96 h97 h98 h99 h100 h101 h102 h103 h104 h106 h107 h108 h109
            go_wp2_with fail
            go_ret2
            rw [HR2.out]
            exact ⟨rfl, hR13.below⟩
          have z3 : decide ((LM : Int) < (d : Int)) = false := decide_eq_false (by omega)
          have r3 := q
          clear q
          by_cases q : 23 < h
          · have HR2 : Hid (longS L = none) := Lib.hid (by rw [HR.out]; unfold timeS; rw [if_pos (by rw [← HLM.out]; exact Or.inr (Or.inr (Or.inr (Or.inr (Or.inl q)))))])
            have z4 : decide ((23 : Int) < (h : Int)) = true := decide_eq_true (by omega)
            refine wp_region_softG 46 (by kernel_rfl) (by kernel_rfl) (by rfl) hRs ?_
            refine g_move (R := Is (.slice (some ⟨g, 0, none⟩) 6 cap)) (by rfl) (stb_is _) (by exact fun _ _ _ h => h) ?_
            refine g_ixi (b := g) (f := 0) (len := 6) (c := cap) (i := 1) (by rfl) (by exact fun _ _ _ h => h) (by exact fun _ _ _ h => h) (by decide) ?_
            refine g_cellw (g := g) (k := 0 + 1 * 1) (v := .int .i64 (m : Nat)) (R := Is (.int .i64 (m : Nat))) (by rfl) (by exact fun _ _ _ h => h) (HC1.out) isAgg_int (stb_is _) (by exact fun _ _ => rfl) ?_
            refine g_bin (v := .int .i64 (m : Nat)) (u := .int .i64 1) (r := .bool false) (by rfl) (by exact fun _ _ _ h => h) (by exact fun _ _ _ h => h) (by rfl) (fun W => bin_lssI (r := false) _ _ z0 W) ?_
            refine g_move (R := Is (.bool false)) (by rfl) (stb_is _) (by exact fun _ _ _ h => h) ?_
            refine g_move (R := Is (.slice (some ⟨g, 0, none⟩) 6 cap)) (by rfl) (stb_is _) (by exact fun _ _ _ h => h) ?_
            refine g_ixi (b := g) (f := 0) (len := 6) (c := cap) (i := 1) (by rfl) (by exact fun _ _ _ h => h) (by exact fun _ _ _ h => h) (by decide) ?_
            refine g_cellw (g := g) (k := 0 + 1 * 1) (v := .int .i64 (m : Nat)) (R := Is (.int .i64 (m : Nat))) (by rfl) (by exact fun _ _ _ h => h) (HC1.out) isAgg_int (stb_is _) (by exact fun _ _ => rfl) ?_
            refine g_bin (v := .int .i64 (m : Nat)) (u := .int .i64 12) (r := .bool false) (by rfl) (by exact fun _ _ _ h => h) (by exact fun _ _ _ h => h) (by rfl) (fun W => bin_gtrI (r := false) _ _ z1 W) ?_
            refine g_pick (b := false) (R := Is (.bool false)) (by rfl) (by exact fun _ _ _ h => h) (stb_is _) (by exact fun _ _ _ h => h) ?_
            refine g_move (R := Is (.bool false)) (by rfl) (stb_is _) (by exact fun _ _ _ h => h) ?_
            refine g_move (R := Is (.slice (some ⟨g, 0, none⟩) 6 cap)) (by rfl) (stb_is _) (by exact fun _ _ _ h => h) ?_
            refine g_ixi (b := g) (f := 0) (len := 6) (c := cap) (i := 2) (by rfl) (by exact fun _ _ _ h => h) (by exact fun _ _ _ h => h) (by decide) ?_
            refine g_cellw (g := g) (k := 0 + 2 * 1) (v := .int .i64 (d : Nat)) (R := Is (.int .i64 (d : Nat))) (by rfl) (by exact fun _ _ _ h => h) (HC2.out) isAgg_int (stb_is _) (by exact fun _ _ => rfl) ?_
            refine g_bin (v := .int .i64 (d : Nat)) (u := .int .i64 1) (r := .bool false) (by rfl) (by exact fun _ _ _ h => h) (by exact fun _ _ _ h => h) (by rfl) (fun W => bin_lssI (r := false) _ _ z2 W) ?_
            refine g_pick (b := false) (R := Is (.bool false)) (by rfl) (by exact fun _ _ _ h => h) (stb_is _) (by exact fun _ _ _ h => h) ?_
            refine g_move (R := Is (.bool false)) (by rfl) (stb_is _) (by exact fun _ _ _ h => h) ?_
            refine g_move (R := Is (.slice (some ⟨g, 0, none⟩) 6 cap)) (by rfl) (stb_is _) (by exact fun _ _ _ h => h) ?_
            refine g_ixi (b := g) (f := 0) (len := 6) (c := cap) (i := 2) (by rfl) (by exact fun _ _ _ h => h) (by exact fun _ _ _ h => h) (by decide) ?_
            refine g_cellw (g := g) (k := 0 + 2 * 1) (v := .int .i64 (d : Nat)) (R := Is (.int .i64 (d : Nat))) (by rfl) (by exact fun _ _ _ h => h) (HC2.out) isAgg_int (stb_is _) (by exact fun _ _ => rfl) ?_
            refine g_move (R := Is (.slice (some ⟨g, 0, none⟩) 6 cap)) (by rfl) (stb_is _) (by exact fun _ _ _ h => h) ?_
            refine g_ixi (b := g) (f := 0) (len := 6) (c := cap) (i := 0) (by rfl) (by exact fun _ _ _ h => h) (by exact fun _ _ _ h => h) (by decide) ?_
            refine g_cellw (g := g) (k := 0 + 0 * 1) (v := .int .i64 (y : Nat)) (R := Is (.int .i64 (y : Nat))) (by rfl) (by exact fun _ _ _ h => h) (HC0.out) isAgg_int (stb_is _) (by exact fun _ _ => rfl) ?_
            refine g_move (R := Is (.slice (some ⟨g, 0, none⟩) 6 cap)) (by rfl) (stb_is _) (by exact fun _ _ _ h => h) ?_
            refine g_ixi (b := g) (f := 0) (len := 6) (c := cap) (i := 1) (by rfl) (by exact fun _ _ _ h => h) (by exact fun _ _ _ h => h) (by decide) ?_
            refine g_cellw (g := g) (k := 0 + 1 * 1) (v := .int .i64 (m : Nat)) (R := Is (.int .i64 (m : Nat))) (by rfl) (by exact fun _ _ _ h => h) (HC1.out) isAgg_int (stb_is _) (by exact fun _ _ => rfl) ?_
            refine g_callK (f := 57) (xs := [.tmp 86, .tmp 89]) [.int .i64 (y : Nat), .int .i64 (m : Nat)] (R := Is (.int .i64 (LM : Nat))) (by rfl) Tryz.func57 (by kernel_rfl) rfl (stb_is _) ⟨(by exact fun _ _ _ h => h), (by exact fun _ _ _ h => h), trivial⟩ (HDR.out) ?_
            refine g_bin (v := .int .i64 (d : Nat)) (u := .int .i64 (LM : Nat)) (r := .bool false) (by rfl) (by exact fun _ _ _ h => h) (by exact fun _ _ _ h => h) (by rfl) (fun W => bin_gtrI (r := false) _ _ z3 W) ?_
            refine g_pick (b := false) (R := Is (.bool false)) (by rfl) (by exact fun _ _ _ h => h) (stb_is _) (by exact fun _ _ _ h => h) ?_
            refine g_move (R := Is (.bool false)) (by rfl) (stb_is _) (by exact fun _ _ _ h => h) ?_
            refine g_move (R := Is (.slice (some ⟨g, 0, none⟩) 6 cap)) (by rfl) (stb_is _) (by exact fun _ _ _ h => h) ?_
            refine g_ixi (b := g) (f := 0) (len := 6) (c := cap) (i := 3) (by rfl) (by exact fun _ _ _ h => h) (by exact fun _ _ _ h => h) (by decide) ?_
            refine g_cellw (g := g) (k := 0 + 3 * 1) (v := .int .i64 (h : Nat)) (R := Is (.int .i64 (h : Nat))) (by rfl) (by exact fun _ _ _ h => h) (HC3.out) isAgg_int (stb_is _) (by exact fun _ _ => rfl) ?_
            refine g_bin (v := .int .i64 (h : Nat)) (u := .int .i64 23) (r := .bool true) (by rfl) (by exact fun _ _ _ h => h) (by exact fun _ _ _ h => h) (by rfl) (fun W => bin_gtrI (r := true) _ _ z4 W) ?_
            refine g_pick (b := false) (R := Is (.bool true)) (by rfl) (by exact fun _ _ _ h => h) (stb_is _) (by exact fun _ _ _ h => h) ?_
            refine g_move (R := Is (.bool true)) (by rfl) (stb_is _) (by exact fun _ _ _ h => h) ?_
            refine g_dead (dead_of rfl rfl (fun _ _ _ h => h) (by rfl)) ?_
            refine g_dead (dead_of rfl rfl (fun _ _ _ h => h) (by rfl)) ?_
            refine g_dead (dead_of rfl rfl (fun _ _ _ h => h) (by rfl)) ?_
            refine g_dead (dead_of rfl rfl (fun _ _ _ h => h) (by rfl)) ?_
            refine g_pick (b := true) (R := Is (.bool true)) (by rfl) (by exact fun _ _ _ h => h) (stb_is _) (by exact fun _ _ _ h => h) ?_
            refine g_move (R := Is (.bool true)) (by rfl) (stb_is _) (by exact fun _ _ _ h => h) ?_
            refine g_dead (dead_of rfl rfl (fun _ _ _ h => h) (by rfl)) ?_
            refine g_dead (dead_of rfl rfl (fun _ _ _ h => h) (by rfl)) ?_
            refine g_dead (dead_of rfl rfl (fun _ _ _ h => h) (by rfl)) ?_
            refine g_dead (dead_of rfl rfl (fun _ _ _ h => h) (by rfl)) ?_
            intro w13 hR13 hb13 v64 h64 v65 h65 v66 h66 v67 h67 v68 h68 v69 h69 v70 h70 v71 h71 v72 h72 v73 h73 v74 h74 v75 h75 v76 h76 v77 h77 v78 h78 v79 h79 v80 h80 v81 h81 v82 h82 v83 h83 v84 h84 v85 h85 v86 h86 v87 h87 v88 h88 v89 h89 v90 h90 v91 h91 v92 h92 v93 h93 v94 h94 v95 h95 v96 h96 v97 h97 v98 h98 v99 h99 v100 h100 v101 h101 v102 h102 v103 h103 v104 h104 v105 h105 v106 h106 v107 h107 v108 h108 v109 h109
            simp only [softEnd, Act.put, List.setIfInBounds_toArray, List.set_cons_succ, List.set_cons_zero, List.drop_succ_cons, List.drop_zero]
            obtain rfl : v105 = .bool true := h105
            clear h64 h65 h66 h67 h68 h69 h70 h71 h72 h73 h74 h75 h76 h77 h78 h79 h80 h81 h82 h83 h84 h85 h86 h87 h88 h89 h90 h91 h92 h93 h94 h95 h96 h97 h98 h99 h100 h101 h102 h103 h104 h106 h107 h108 h109
            go_wp2_with fail
            go_ret2
            rw [HR2.out]
            exact ⟨rfl, hR13.below⟩
          have z4 : decide ((23 : Int) < (h : Int)) = false := decide_eq_false (by omega)
          have r4 := q
          clear q
          by_cases q : 59 < ii
          · have HR2 : Hid (longS L = none) := Lib.hid (by rw [HR.out]; unfold timeS; rw [if_pos (by rw [← HLM.out]; exact Or.inr (Or.inr (Or.inr (Or.inr (Or.inr (Or.inl q))))))])
            have z5 : decide ((59 : Int) < (ii : Int)) = true := decide_eq_true (by omega)
            refine wp_region_softG 46 (by kernel_rfl) (by kernel_rfl) (by rfl) hRs ?_
            refine g_move (R := Is (.slice (some ⟨g, 0, none⟩) 6 cap)) (by rfl) (stb_is _) (by exact fun _ _ _ h => h) ?_
            refine g_ixi (b := g) (f := 0) (len := 6) (c := cap) (i := 1) (by rfl) (by exact fun _ _ _ h => h) (by exact fun _ _ _ h => h) (by decide) ?_
            refine g_cellw (g := g) (k := 0 + 1 * 1) (v := .int .i64 (m : Nat)) (R := Is (.int .i64 (m : Nat))) (by rfl) (by exact fun _ _ _ h => h) (HC1.out) isAgg_int (stb_is _) (by exact fun _ _ => rfl) ?_
            refine g_bin (v := .int .i64 (m : Nat)) (u := .int .i64 1) (r := .bool false) (by rfl) (by exact fun _ _ _ h => h) (by exact fun _ _ _ h => h) (by rfl) (fun W => bin_lssI (r := false) _ _ z0 W) ?_
            refine g_move (R := Is (.bool false)) (by rfl) (stb_is _) (by exact fun _ _ _ h => h) ?_
            refine g_move (R := Is (.slice (some ⟨g, 0, none⟩) 6 cap)) (by rfl) (stb_is _) (by exact fun _ _ _ h => h) ?_
            refine g_ixi (b := g) (f := 0) (len := 6) (c := cap) (i := 1) (by rfl) (by exact fun _ _ _ h => h) (by exact fun _ _ _ h => h) (by decide) ?_
            refine g_cellw (g := g) (k := 0 + 1 * 1) (v := .int .i64 (m : Nat)) (R := Is (.int .i64 (m : Nat))) (by rfl) (by exact fun _ _ _ h => h) (HC1.out) isAgg_int (stb_is _) (by exact fun _ _ => rfl) ?_
            refine g_bin (v := .int .i64 (m : Nat)) (u := .int .i64 12) (r := .bool false) (by rfl) (by exact fun _ _ _ h => h) (by exact fun _ _ _ h => h) (by rfl) (fun W => bin_gtrI (r := false) _ _ z1 W) ?_
            refine g_pick (b := false) (R := Is (.bool false)) (by rfl) (by exact fun _ _ _ h => h) (stb_is _) (by exact fun _ _ _ h => h) ?_
            refine g_move (R := Is (.bool false)) (by rfl) (stb_is _) (by exact fun _ _ _ h => h) ?_
            refine g_move (R := Is (.slice (some ⟨g, 0, none⟩) 6 cap)) (by rfl) (stb_is _) (by exact fun _ _ _ h => h) ?_
            refine g_ixi (b := g) (f := 0) (len := 6) (c := cap) (i := 2) (by rfl) (by exact fun _ _ _ h => h) (by exact fun _ _ _ h => h) (by decide) ?_
            refine g_cellw (g := g) (k := 0 + 2 * 1) (v := .int .i64 (d : Nat)) (R := Is (.int .i64 (d : Nat))) (by rfl) (by exact fun _ _ _ h => h) (HC2.out) isAgg_int (stb_is _) (by exact fun _ _ => rfl) ?_
            refine g_bin (v := .int .i64 (d : Nat)) (u := .int .i64 1) (r := .bool false) (by rfl) (by exact fun _ _ _ h => h) (by exact fun _ _ _ h => h) (by rfl) (fun W => bin_lssI (r := false) _ _ z2 W) ?_
            refine g_pick (b := false) (R := Is (.bool false)) (by rfl) (by exact fun _ _ _ h => h) (stb_is _) (by exact fun _ _ _ h => h) ?_
            refine g_move (R := Is (.bool false)) (by rfl) (stb_is _) (by exact fun _ _ _ h => h) ?_
            refine g_move (R := Is (.slice (some ⟨g, 0, none⟩) 6 cap)) (by rfl) (stb_is _) (by exact fun _ _ _ h => h) ?_
            refine g_ixi (b := g) (f := 0) (len := 6) (c := cap) (i := 2) (by rfl) (by exact fun _ _ _ h => h) (by exact fun _ _ _ h => h) (by decide) ?_
            refine g_cellw (g := g) (k := 0 + 2 * 1) (v := .int .i64 (d : Nat)) (R := Is (.int .i64 (d : Nat))) (by rfl) (by exact fun _ _ _ h => h) (HC2.out) isAgg_int (stb_is _) (by exact fun _ _ => rfl) ?_
            refine g_move (R := Is (.slice (some ⟨g, 0, none⟩) 6 cap)) (by rfl) (stb_is _) (by exact fun _ _ _ h => h) ?_
            refine g_ixi (b := g) (f := 0) (len := 6) (c := cap) (i := 0) (by rfl) (by exact fun _ _ _ h => h) (by exact fun _ _ _ h => h) (by decide) ?_
            refine g_cellw (g := g) (k := 0 + 0 * 1) (v := .int .i64 (y : Nat)) (R := Is (.int .i64 (y : Nat))) (by rfl) (by exact fun _ _ _ h => h) (HC0.out) isAgg_int (stb_is _) (by exact fun _ _ => rfl) ?_
            refine g_move (R := Is (.slice (some ⟨g, 0, none⟩) 6 cap)) (by rfl) (stb_is _) (by exact fun _ _ _ h => h) ?_
            refine g_ixi (b := g) (f := 0) (len := 6) (c := cap) (i := 1) (by rfl) (by exact fun _ _ _ h => h) (by exact fun _ _ _ h => h) (by decide) ?_
            refine g_cellw (g := g) (k := 0 + 1 * 1) (v := .int .i64 (m : Nat)) (R := Is (.int .i64 (m : Nat))) (by rfl) (by exact fun _ _ _ h => h) (HC1.out) isAgg_int (stb_is _) (by exact fun _ _ => rfl) ?_
            refine g_callK (f := 57) (xs := [.tmp 86, .tmp 89]) [.int .i64 (y : Nat), .int .i64 (m : Nat)] (R := Is (.int .i64 (LM : Nat))) (by rfl) Tryz.func57 (by kernel_rfl) rfl (stb_is _) ⟨(by exact fun _ _ _ h => h), (by exact fun _ _ _ h => h), trivial⟩ (HDR.out) ?_
            refine g_bin (v := .int .i64 (d : Nat)) (u := .int .i64 (LM : Nat)) (r := .bool false) (by rfl) (by exact fun _ _ _ h => h) (by exact fun _ _ _ h => h) (by rfl) (fun W => bin_gtrI (r := false) _ _ z3 W) ?_
            refine g_pick (b := false) (R := Is (.bool false)) (by rfl) (by exact fun _ _ _ h => h) (stb_is _) (by exact fun _ _ _ h => h) ?_
            refine g_move (R := Is (.bool false)) (by rfl) (stb_is _) (by exact fun _ _ _ h => h) ?_
            refine g_move (R := Is (.slice (some ⟨g, 0, none⟩) 6 cap)) (by rfl) (stb_is _) (by exact fun _ _ _ h => h) ?_
            refine g_ixi (b := g) (f := 0) (len := 6) (c := cap) (i := 3) (by rfl) (by exact fun _ _ _ h => h) (by exact fun _ _ _ h => h) (by decide) ?_
            refine g_cellw (g := g) (k := 0 + 3 * 1) (v := .int .i64 (h : Nat)) (R := Is (.int .i64 (h : Nat))) (by rfl) (by exact fun _ _ _ h => h) (HC3.out) isAgg_int (stb_is _) (by exact fun _ _ => rfl) ?_
            refine g_bin (v := .int .i64 (h : Nat)) (u := .int .i64 23) (r := .bool false) (by rfl) (by exact fun _ _ _ h => h) (by exact fun _ _ _ h => h) (by rfl) (fun W => bin_gtrI (r := false) _ _ z4 W) ?_
            refine g_pick (b := false) (R := Is (.bool false)) (by rfl) (by exact fun _ _ _ h => h) (stb_is _) (by exact fun _ _ _ h => h) ?_
            refine g_move (R := Is (.bool false)) (by rfl) (stb_is _) (by exact fun _ _ _ h => h) ?_
            refine g_move (R := Is (.slice (some ⟨g, 0, none⟩) 6 cap)) (by rfl) (stb_is _) (by exact fun _ _ _ h => h) ?_
            refine g_ixi (b := g) (f := 0) (len := 6) (c := cap) (i := 4) (by rfl) (by exact fun _ _ _ h => h) (by exact fun _ _ _ h => h) (by decide) ?_
            refine g_cellw (g := g) (k := 0 + 4 * 1) (v := .int .i64 (ii : Nat)) (R := Is (.int .i64 (ii : Nat))) (by rfl) (by exact fun _ _ _ h => h) (HC4.out) isAgg_int (stb_is _) (by exact fun _ _ => rfl) ?_
            refine g_bin (v := .int .i64 (ii : Nat)) (u := .int .i64 59) (r := .bool true) (by rfl) (by exact fun _ _ _ h => h) (by exact fun _ _ _ h => h) (by rfl) (fun W => bin_gtrI (r := true) _ _ z5 W) ?_
            refine g_pick (b := false) (R := Is (.bool true)) (by rfl) (by exact fun _ _ _ h => h) (stb_is _) (by exact fun _ _ _ h => h) ?_
            refine g_move (R := Is (.bool true)) (by rfl) (stb_is _) (by exact fun _ _ _ h => h) ?_
            refine g_dead (dead_of rfl rfl (fun _ _ _ h => h) (by rfl)) ?_
            refine g_dead (dead_of rfl rfl (fun _ _ _ h => h) (by rfl)) ?_
            refine g_dead (dead_of rfl rfl (fun _ _ _ h => h) (by rfl)) ?_
            refine g_dead (dead_of rfl rfl (fun _ _ _ h => h) (by rfl)) ?_
            intro w13 hR13 hb13 v64 h64 v65 h65 v66 h66 v67 h67 v68 h68 v69 h69 v70 h70 v71 h71 v72 h72 v73 h73 v74 h74 v75 h75 v76 h76 v77 h77 v78 h78 v79 h79 v80 h80 v81 h81 v82 h82 v83 h83 v84 h84 v85 h85 v86 h86 v87 h87 v88 h88 v89 h89 v90 h90 v91 h91 v92 h92 v93 h93 v94 h94 v95 h95 v96 h96 v97 h97 v98 h98 v99 h99 v100 h100 v101 h101 v102 h102 v103 h103 v104 h104 v105 h105 v106 h106 v107 h107 v108 h108 v109 h109
            simp only [softEnd, Act.put, List.setIfInBounds_toArray, List.set_cons_succ, List.set_cons_zero, List.drop_succ_cons, List.drop_zero]
            obtain rfl : v105 = .bool true := h105
            clear h64 h65 h66 h67 h68 h69 h70 h71 h72 h73 h74 h75 h76 h77 h78 h79 h80 h81 h82 h83 h84 h85 h86 h87 h88 h89 h90 h91 h92 h93 h94 h95 h96 h97 h98 h99 h100 h101 h102 h103 h104 h106 h107 h108 h109
            go_wp2_with fail
            go_ret2
            rw [HR2.out]
            exact ⟨rfl, hR13.below⟩
          have z5 : decide ((59 : Int) < (ii : Int)) = false := decide_eq_false (by omega)
          have r5 := q
          clear q
          by_cases q : 59 < s
          · have HR2 : Hid (longS L = none) := Lib.hid (by rw [HR.out]; unfold timeS; rw [if_pos (by rw [← HLM.out]; exact Or.inr (Or.inr (Or.inr (Or.inr (Or.inr (Or.inr (q)))))))])
            have z6 : decide ((59 : Int) < (s : Int)) = true := decide_eq_true (by omega)
            refine wp_region_softG 46 (by kernel_rfl) (by kernel_rfl) (by rfl) hRs ?_
            refine g_move (R := Is (.slice (some ⟨g, 0, none⟩) 6 cap)) (by rfl) (stb_is _) (by exact fun _ _ _ h => h) ?_
            refine g_ixi (b := g) (f := 0) (len := 6) (c := cap) (i := 1) (by rfl) (by exact fun _ _ _ h => h) (by exact fun _ _ _ h => h) (by decide) ?_
            refine g_cellw (g := g) (k := 0 + 1 * 1) (v := .int .i64 (m : Nat)) (R := Is (.int .i64 (m : Nat))) (by rfl) (by exact fun _ _ _ h => h) (HC1.out) isAgg_int (stb_is _) (by exact fun _ _ => rfl) ?_
            refine g_bin (v := .int .i64 (m : Nat)) (u := .int .i64 1) (r := .bool false) (by rfl) (by exact fun _ _ _ h => h) (by exact fun _ _ _ h => h) (by rfl) (fun W => bin_lssI (r := false) _ _ z0 W) ?_
            refine g_move (R := Is (.bool false)) (by rfl) (stb_is _) (by exact fun _ _ _ h => h) ?_
            refine g_move (R := Is (.slice (some ⟨g, 0, none⟩) 6 cap)) (by rfl) (stb_is _) (by exact fun _ _ _ h => h) ?_
            refine g_ixi (b := g) (f := 0) (len := 6) (c := cap) (i := 1) (by rfl) (by exact fun _ _ _ h => h) (by exact fun _ _ _ h => h) (by decide) ?_
            refine g_cellw (g := g) (k := 0 + 1 * 1) (v := .int .i64 (m : Nat)) (R := Is (.int .i64 (m : Nat))) (by rfl) (by exact fun _ _ _ h => h) (HC1.out) isAgg_int (stb_is _) (by exact fun _ _ => rfl) ?_
            refine g_bin (v := .int .i64 (m : Nat)) (u := .int .i64 12) (r := .bool false) (by rfl) (by exact fun _ _ _ h => h) (by exact fun _ _ _ h => h) (by rfl) (fun W => bin_gtrI (r := false) _ _ z1 W) ?_
            refine g_pick (b := false) (R := Is (.bool false)) (by rfl) (by exact fun _ _ _ h => h) (stb_is _) (by exact fun _ _ _ h => h) ?_
            refine g_move (R := Is (.bool false)) (by rfl) (stb_is _) (by exact fun _ _ _ h => h) ?_
            refine g_move (R := Is (.slice (some ⟨g, 0, none⟩) 6 cap)) (by rfl) (stb_is _) (by exact fun _ _ _ h => h) ?_
            refine g_ixi (b := g) (f := 0) (len := 6) (c := cap) (i := 2) (by rfl) (by exact fun _ _ _ h => h) (by exact fun _ _ _ h => h) (by decide) ?_
            refine g_cellw (g := g) (k := 0 + 2 * 1) (v := .int .i64 (d : Nat)) (R := Is (.int .i64 (d : Nat))) (by rfl) (by exact fun _ _ _ h => h) (HC2.out) isAgg_int (stb_is _) (by exact fun _ _ => rfl) ?_
            refine g_bin (v := .int .i64 (d : Nat)) (u := .int .i64 1) (r := .bool false) (by rfl) (by exact fun _ _ _ h => h) (by exact fun _ _ _ h => h) (by rfl) (fun W => bin_lssI (r := false) _ _ z2 W) ?_
            refine g_pick (b := false) (R := Is (.bool false)) (by rfl) (by exact fun _ _ _ h => h) (stb_is _) (by exact fun _ _ _ h => h) ?_
            refine g_move (R := Is (.bool false)) (by rfl) (stb_is _) (by exact fun _ _ _ h => h) ?_
            refine g_move (R := Is (.slice (some ⟨g, 0, none⟩) 6 cap)) (by rfl) (stb_is _) (by exact fun _ _ _ h => h) ?_
            refine g_ixi (b := g) (f := 0) (len := 6) (c := cap) (i := 2) (by rfl) (by exact fun _ _ _ h => h) (by exact fun _ _ _ h => h) (by decide) ?_
            refine g_cellw (g := g) (k := 0 + 2 * 1) (v := .int .i64 (d : Nat)) (R := Is (.int .i64 (d : Nat))) (by rfl) (by exact fun _ _ _ h => h) (HC2.out) isAgg_int (stb_is _) (by exact fun _ _ => rfl) ?_
            refine g_move (R := Is (.slice (some ⟨g, 0, none⟩) 6 cap)) (by rfl) (stb_is _) (by exact fun _ _ _ h => h) ?_
            refine g_ixi (b := g) (f := 0) (len := 6) (c := cap) (i := 0) (by rfl) (by exact fun _ _ _ h => h) (by exact fun _ _ _ h => h) (by decide) ?_
            refine g_cellw (g := g) (k := 0 + 0 * 1) (v := .int .i64 (y : Nat)) (R := Is (.int .i64 (y : Nat))) (by rfl) (by exact fun _ _ _ h => h) (HC0.out) isAgg_int (stb_is _) (by exact fun _ _ => rfl) ?_
            refine g_move (R := Is (.slice (some ⟨g, 0, none⟩) 6 cap)) (by rfl) (stb_is _) (by exact fun _ _ _ h => h) ?_
            refine g_ixi (b := g) (f := 0) (len := 6) (c := cap) (i := 1) (by rfl) (by exact fun _ _ _ h => h) (by exact fun _ _ _ h => h) (by decide) ?_
            refine g_cellw (g := g) (k := 0 + 1 * 1) (v := .int .i64 (m : Nat)) (R := Is (.int .i64 (m : Nat))) (by rfl) (by exact fun _ _ _ h => h) (HC1.out) isAgg_int (stb_is _) (by exact fun _ _ => rfl) ?_
            refine g_callK (f := 57) (xs := [.tmp 86, .tmp 89]) [.int .i64 (y : Nat), .int .i64 (m : Nat)] (R := Is (.int .i64 (LM : Nat))) (by rfl) Tryz.func57 (by kernel_rfl) rfl (stb_is _) ⟨(by exact fun _ _ _ h => h), (by exact fun _ _ _ h => h), trivial⟩ (HDR.out) ?_
            refine g_bin (v := .int .i64 (d : Nat)) (u := .int .i64 (LM : Nat)) (r := .bool false) (by rfl) (by exact fun _ _ _ h => h) (by exact fun _ _ _ h => h) (by rfl) (fun W => bin_gtrI (r := false) _ _ z3 W) ?_
            refine g_pick (b := false) (R := Is (.bool false)) (by rfl) (by exact fun _ _ _ h => h) (stb_is _) (by exact fun _ _ _ h => h) ?_
            refine g_move (R := Is (.bool false)) (by rfl) (stb_is _) (by exact fun _ _ _ h => h) ?_
            refine g_move (R := Is (.slice (some ⟨g, 0, none⟩) 6 cap)) (by rfl) (stb_is _) (by exact fun _ _ _ h => h) ?_
            refine g_ixi (b := g) (f := 0) (len := 6) (c := cap) (i := 3) (by rfl) (by exact fun _ _ _ h => h) (by exact fun _ _ _ h => h) (by decide) ?_
            refine g_cellw (g := g) (k := 0 + 3 * 1) (v := .int .i64 (h : Nat)) (R := Is (.int .i64 (h : Nat))) (by rfl) (by exact fun _ _ _ h => h) (HC3.out) isAgg_int (stb_is _) (by exact fun _ _ => rfl) ?_
            refine g_bin (v := .int .i64 (h : Nat)) (u := .int .i64 23) (r := .bool false) (by rfl) (by exact fun _ _ _ h => h) (by exact fun _ _ _ h => h) (by rfl) (fun W => bin_gtrI (r := false) _ _ z4 W) ?_
            refine g_pick (b := false) (R := Is (.bool false)) (by rfl) (by exact fun _ _ _ h => h) (stb_is _) (by exact fun _ _ _ h => h) ?_
            refine g_move (R := Is (.bool false)) (by rfl) (stb_is _) (by exact fun _ _ _ h => h) ?_
            refine g_move (R := Is (.slice (some ⟨g, 0, none⟩) 6 cap)) (by rfl) (stb_is _) (by exact fun _ _ _ h => h) ?_
            refine g_ixi (b := g) (f := 0) (len := 6) (c := cap) (i := 4) (by rfl) (by exact fun _ _ _ h => h) (by exact fun _ _ _ h => h) (by decide) ?_
            refine g_cellw (g := g) (k := 0 + 4 * 1) (v := .int .i64 (ii : Nat)) (R := Is (.int .i64 (ii : Nat))) (by rfl) (by exact fun _ _ _ h => h) (HC4.out) isAgg_int (stb_is _) (by exact fun _ _ => rfl) ?_
            refine g_bin (v := .int .i64 (ii : Nat)) (u := .int .i64 59) (r := .bool false) (by rfl) (by exact fun _ _ _ h => h) (by exact fun _ _ _ h => h) (by rfl) (fun W => bin_gtrI (r := false) _ _ z5 W) ?_
            refine g_pick (b := false) (R := Is (.bool false)) (by rfl) (by exact fun _ _ _ h => h) (stb_is _) (by exact fun _ _ _ h => h) ?_
            refine g_move (R := Is (.bool false)) (by rfl) (stb_is _) (by exact fun _ _ _ h => h) ?_
            refine g_move (R := Is (.slice (some ⟨g, 0, none⟩) 6 cap)) (by rfl) (stb_is _) (by exact fun _ _ _ h => h) ?_
            refine g_ixi (b := g) (f := 0) (len := 6) (c := cap) (i := 5) (by rfl) (by exact fun _ _ _ h => h) (by exact fun _ _ _ h => h) (by decide) ?_
            refine g_cellw (g := g) (k := 0 + 5 * 1) (v := .int .i64 (s : Nat)) (R := Is (.int .i64 (s : Nat))) (by rfl) (by exact fun _ _ _ h => h) (HC5.out) isAgg_int (stb_is _) (by exact fun _ _ => rfl) ?_
            refine g_bin (v := .int .i64 (s : Nat)) (u := .int .i64 59) (r := .bool true) (by rfl) (by exact fun _ _ _ h => h) (by exact fun _ _ _ h => h) (by rfl) (fun W => bin_gtrI (r := true) _ _ z6 W) ?_
            intro w13 hR13 hb13 v64 h64 v65 h65 v66 h66 v67 h67 v68 h68 v69 h69 v70 h70 v71 h71 v72 h72 v73 h73 v74 h74 v75 h75 v76 h76 v77 h77 v78 h78 v79 h79 v80 h80 v81 h81 v82 h82 v83 h83 v84 h84 v85 h85 v86 h86 v87 h87 v88 h88 v89 h89 v90 h90 v91 h91 v92 h92 v93 h93 v94 h94 v95 h95 v96 h96 v97 h97 v98 h98 v99 h99 v100 h100 v101 h101 v102 h102 v103 h103 v104 h104 v105 h105 v106 h106 v107 h107 v108 h108 v109 h109
            simp only [softEnd, Act.put, List.setIfInBounds_toArray, List.set_cons_succ, List.set_cons_zero, List.drop_succ_cons, List.drop_zero]
            obtain rfl : v105 = .bool false := h105
            obtain rfl : v109 = .bool true := h109
            clear h64 h65 h66 h67 h68 h69 h70 h71 h72 h73 h74 h75 h76 h77 h78 h79 h80 h81 h82 h83 h84 h85 h86 h87 h88 h89 h90 h91 h92 h93 h94 h95 h96 h97 h98 h99 h100 h101 h102 h103 h104 h106 h107 h108
            go_wp2_with fail
            go_ret2
            rw [HR2.out]
            exact ⟨rfl, hR13.below⟩
          have z6 : decide ((59 : Int) < (s : Int)) = false := decide_eq_false (by omega)
          have r6 := q
          clear q
          refine wp_region_softG 46 (by kernel_rfl) (by kernel_rfl) (by rfl) hRs ?_
          refine g_move (R := Is (.slice (some ⟨g, 0, none⟩) 6 cap)) (by rfl) (stb_is _) (by exact fun _ _ _ h => h) ?_
          refine g_ixi (b := g) (f := 0) (len := 6) (c := cap) (i := 1) (by rfl) (by exact fun _ _ _ h => h) (by exact fun _ _ _ h => h) (by decide) ?_
          refine g_cellw (g := g) (k := 0 + 1 * 1) (v := .int .i64 (m : Nat)) (R := Is (.int .i64 (m : Nat))) (by rfl) (by exact fun _ _ _ h => h) (HC1.out) isAgg_int (stb_is _) (by exact fun _ _ => rfl) ?_
          refine g_bin (v := .int .i64 (m : Nat)) (u := .int .i64 1) (r := .bool false) (by rfl) (by exact fun _ _ _ h => h) (by exact fun _ _ _ h => h) (by rfl) (fun W => bin_lssI (r := false) _ _ z0 W) ?_
          refine g_move (R := Is (.bool false)) (by rfl) (stb_is _) (by exact fun _ _ _ h => h) ?_
          refine g_move (R := Is (.slice (some ⟨g, 0, none⟩) 6 cap)) (by rfl) (stb_is _) (by exact fun _ _ _ h => h) ?_
          refine g_ixi (b := g) (f := 0) (len := 6) (c := cap) (i := 1) (by rfl) (by exact fun _ _ _ h => h) (by exact fun _ _ _ h => h) (by decide) ?_
          refine g_cellw (g := g) (k := 0 + 1 * 1) (v := .int .i64 (m : Nat)) (R := Is (.int .i64 (m : Nat))) (by rfl) (by exact fun _ _ _ h => h) (HC1.out) isAgg_int (stb_is _) (by exact fun _ _ => rfl) ?_
          refine g_bin (v := .int .i64 (m : Nat)) (u := .int .i64 12) (r := .bool false) (by rfl) (by exact fun _ _ _ h => h) (by exact fun _ _ _ h => h) (by rfl) (fun W => bin_gtrI (r := false) _ _ z1 W) ?_
          refine g_pick (b := false) (R := Is (.bool false)) (by rfl) (by exact fun _ _ _ h => h) (stb_is _) (by exact fun _ _ _ h => h) ?_
          refine g_move (R := Is (.bool false)) (by rfl) (stb_is _) (by exact fun _ _ _ h => h) ?_
          refine g_move (R := Is (.slice (some ⟨g, 0, none⟩) 6 cap)) (by rfl) (stb_is _) (by exact fun _ _ _ h => h) ?_
          refine g_ixi (b := g) (f := 0) (len := 6) (c := cap) (i := 2) (by rfl) (by exact fun _ _ _ h => h) (by exact fun _ _ _ h => h) (by decide) ?_
          refine g_cellw (g := g) (k := 0 + 2 * 1) (v := .int .i64 (d : Nat)) (R := Is (.int .i64 (d : Nat))) (by rfl) (by exact fun _ _ _ h => h) (HC2.out) isAgg_int (stb_is _) (by exact fun _ _ => rfl) ?_
          refine g_bin (v := .int .i64 (d : Nat)) (u := .int .i64 1) (r := .bool false) (by rfl) (by exact fun _ _ _ h => h) (by exact fun _ _ _ h => h) (by rfl) (fun W => bin_lssI (r := false) _ _ z2 W) ?_
          refine g_pick (b := false) (R := Is (.bool false)) (by rfl) (by exact fun _ _ _ h => h) (stb_is _) (by exact fun _ _ _ h => h) ?_
          refine g_move (R := Is (.bool false)) (by rfl) (stb_is _) (by exact fun _ _ _ h => h) ?_
          refine g_move (R := Is (.slice (some ⟨g, 0, none⟩) 6 cap)) (by rfl) (stb_is _) (by exact fun _ _ _ h => h) ?_
          refine g_ixi (b := g) (f := 0) (len := 6) (c := cap) (i := 2) (by rfl) (by exact fun _ _ _ h => h) (by exact fun _ _ _ h => h) (by decide) ?_
          refine g_cellw (g := g) (k := 0 + 2 * 1) (v := .int .i64 (d : Nat)) (R := Is (.int .i64 (d : Nat))) (by rfl) (by exact fun _ _ _ h => h) (HC2.out) isAgg_int (stb_is _) (by exact fun _ _ => rfl) ?_
          refine g_move (R := Is (.slice (some ⟨g, 0, none⟩) 6 cap)) (by rfl) (stb_is _) (by exact fun _ _ _ h => h) ?_
          refine g_ixi (b := g) (f := 0) (len := 6) (c := cap) (i := 0) (by rfl) (by exact fun _ _ _ h => h) (by exact fun _ _ _ h => h) (by decide) ?_
          refine g_cellw (g := g) (k := 0 + 0 * 1) (v := .int .i64 (y : Nat)) (R := Is (.int .i64 (y : Nat))) (by rfl) (by exact fun _ _ _ h => h) (HC0.out) isAgg_int (stb_is _) (by exact fun _ _ => rfl) ?_
          refine g_move (R := Is (.slice (some ⟨g, 0, none⟩) 6 cap)) (by rfl) (stb_is _) (by exact fun _ _ _ h => h) ?_
          refine g_ixi (b := g) (f := 0) (len := 6) (c := cap) (i := 1) (by rfl) (by exact fun _ _ _ h => h) (by exact fun _ _ _ h => h) (by decide) ?_
          refine g_cellw (g := g) (k := 0 + 1 * 1) (v := .int .i64 (m : Nat)) (R := Is (.int .i64 (m : Nat))) (by rfl) (by exact fun _ _ _ h => h) (HC1.out) isAgg_int (stb_is _) (by exact fun _ _ => rfl) ?_
          refine g_callK (f := 57) (xs := [.tmp 86, .tmp 89]) [.int .i64 (y : Nat), .int .i64 (m : Nat)] (R := Is (.int .i64 (LM : Nat))) (by rfl) Tryz.func57 (by kernel_rfl) rfl (stb_is _) ⟨(by exact fun _ _ _ h => h), (by exact fun _ _ _ h => h), trivial⟩ (HDR.out) ?_
          refine g_bin (v := .int .i64 (d : Nat)) (u := .int .i64 (LM : Nat)) (r := .bool false) (by rfl) (by exact fun _ _ _ h => h) (by exact fun _ _ _ h => h) (by rfl) (fun W => bin_gtrI (r := false) _ _ z3 W) ?_
          refine g_pick (b := false) (R := Is (.bool false)) (by rfl) (by exact fun _ _ _ h => h) (stb_is _) (by exact fun _ _ _ h => h) ?_
          refine g_move (R := Is (.bool false)) (by rfl) (stb_is _) (by exact fun _ _ _ h => h) ?_
          refine g_move (R := Is (.slice (some ⟨g, 0, none⟩) 6 cap)) (by rfl) (stb_is _) (by exact fun _ _ _ h => h) ?_
          refine g_ixi (b := g) (f := 0) (len := 6) (c := cap) (i := 3) (by rfl) (by exact fun _ _ _ h => h) (by exact fun _ _ _ h => h) (by decide) ?_
          refine g_cellw (g := g) (k := 0 + 3 * 1) (v := .int .i64 (h : Nat)) (R := Is (.int .i64 (h : Nat))) (by rfl) (by exact fun _ _ _ h => h) (HC3.out) isAgg_int (stb_is _) (by exact fun _ _ => rfl) ?_
          refine g_bin (v := .int .i64 (h : Nat)) (u := .int .i64 23) (r := .bool false) (by rfl) (by exact fun _ _ _ h => h) (by exact fun _ _ _ h => h) (by rfl) (fun W => bin_gtrI (r := false) _ _ z4 W) ?_
          refine g_pick (b := false) (R := Is (.bool false)) (by rfl) (by exact fun _ _ _ h => h) (stb_is _) (by exact fun _ _ _ h => h) ?_
          refine g_move (R := Is (.bool false)) (by rfl) (stb_is _) (by exact fun _ _ _ h => h) ?_
          refine g_move (R := Is (.slice (some ⟨g, 0, none⟩) 6 cap)) (by rfl) (stb_is _) (by exact fun _ _ _ h => h) ?_
          refine g_ixi (b := g) (f := 0) (len := 6) (c := cap) (i := 4) (by rfl) (by exact fun _ _ _ h => h) (by exact fun _ _ _ h => h) (by decide) ?_
          refine g_cellw (g := g) (k := 0 + 4 * 1) (v := .int .i64 (ii : Nat)) (R := Is (.int .i64 (ii : Nat))) (by rfl) (by exact fun _ _ _ h => h) (HC4.out) isAgg_int (stb_is _) (by exact fun _ _ => rfl) ?_
          refine g_bin (v := .int .i64 (ii : Nat)) (u := .int .i64 59) (r := .bool false) (by rfl) (by exact fun _ _ _ h => h) (by exact fun _ _ _ h => h) (by rfl) (fun W => bin_gtrI (r := false) _ _ z5 W) ?_
          refine g_pick (b := false) (R := Is (.bool false)) (by rfl) (by exact fun _ _ _ h => h) (stb_is _) (by exact fun _ _ _ h => h) ?_
          refine g_move (R := Is (.bool false)) (by rfl) (stb_is _) (by exact fun _ _ _ h => h) ?_
          refine g_move (R := Is (.slice (some ⟨g, 0, none⟩) 6 cap)) (by rfl) (stb_is _) (by exact fun _ _ _ h => h) ?_
          refine g_ixi (b := g) (f := 0) (len := 6) (c := cap) (i := 5) (by rfl) (by exact fun _ _ _ h => h) (by exact fun _ _ _ h => h) (by decide) ?_
          refine g_cellw (g := g) (k := 0 + 5 * 1) (v := .int .i64 (s : Nat)) (R := Is (.int .i64 (s : Nat))) (by rfl) (by exact fun _ _ _ h => h) (HC5.out) isAgg_int (stb_is _) (by exact fun _ _ => rfl) ?_
          refine g_bin (v := .int .i64 (s : Nat)) (u := .int .i64 59) (r := .bool false) (by rfl) (by exact fun _ _ _ h => h) (by exact fun _ _ _ h => h) (by rfl) (fun W => bin_gtrI (r := false) _ _ z6 W) ?_
          intro w13 hR13 hb13 v64 h64 v65 h65 v66 h66 v67 h67 v68 h68 v69 h69 v70 h70 v71 h71 v72 h72 v73 h73 v74 h74 v75 h75 v76 h76 v77 h77 v78 h78 v79 h79 v80 h80 v81 h81 v82 h82 v83 h83 v84 h84 v85 h85 v86 h86 v87 h87 v88 h88 v89 h89 v90 h90 v91 h91 v92 h92 v93 h93 v94 h94 v95 h95 v96 h96 v97 h97 v98 h98 v99 h99 v100 h100 v101 h101 v102 h102 v103 h103 v104 h104 v105 h105 v106 h106 v107 h107 v108 h108 v109 h109
          simp only [softEnd, Act.put, List.setIfInBounds_toArray, List.set_cons_succ, List.set_cons_zero, List.drop_succ_cons, List.drop_zero]
          obtain rfl : v105 = .bool false := h105
          obtain rfl : v109 = .bool false := h109
          clear h64 h65 h66 h67 h68 h69 h70 h71 h72 h73 h74 h75 h76 h77 h78 h79 h80 h81 h82 h83 h84 h85 h86 h87 h88 h89 h90 h91 h92 h93 h94 h95 h96 h97 h98 h99 h100 h101 h102 h103 h104 h106 h107 h108
          have HYE : Hid (∀ u, Calls Tryz.prog 55 #[.int .i64 (y : Nat)] u fun e w' => e = .returned (.int .i64 (yearsS y : Nat)) ∧ u = w') := Lib.hid fun u => (Years_any y u (by omega)).mono fun _ _ hh => ⟨hh.1, hh.2.symm⟩
          have HY7 : Hid (∀ u, Calls Tryz.prog 55 #[.int .i64 1970] u fun e w' => e = .returned (.int .i64 719528) ∧ u = w') := Lib.hid fun u => by
            have h70 : yearsS 1970 = 719528 := day_1970
            have := Years_any 1970 u (by decide)
            rw [h70] at this
            exact this.mono fun _ _ hh => ⟨hh.1, hh.2.symm⟩
          have HDK : Hid (∀ (k : Nat) u, 1 ≤ k → k < m → Calls Tryz.prog 57 #[.int .i64 (y : Nat), .int .i64 (k : Nat)] u fun e w' => e = .returned (.int .i64 (lenM y k : Nat)) ∧ Below u.heap.size u w') := Lib.hid fun k u h1 h2 => days_any y k u (by omega) h1 (by omega)
          have HML : Hid (∀ k, 1 ≤ k → k ≤ m → monthsS y k ≤ 31 * k) := Lib.hid fun k h1 _ => months_le y k h1
          have hYL := years_le (y := y)
          obtain ⟨YY, hYY⟩ : ∃ YY, YY = yearsS y := ⟨_, rfl⟩
          have HR2 : Hid (longS L = some (86400 * (((YY + monthsS y m : Nat) : Int) + d - 1 - 719528) + 3600 * h + 60 * ii + s)) := Lib.hid (by
            rw [HR.out]; unfold timeS; rw [if_neg (by rw [← HLM.out]; omega), day_1970, hYY]; rfl)
          rw [← hYY] at HYE hYL
          have HB13 := Lib.hid hb13
          have HBW : Hid (Below w.heap.size w w13) := Lib.hid hR13.below
          have hm1 : 1 ≤ m := by omega
          have hm2 : m ≤ 12 := by omega
          have HCS : Hid (∀ u, Below w13.heap.size w13 u → u.cell? ⟨g, 0, none⟩ = some (.int .i64 (y : Nat)) ∧ u.cell? ⟨g, 1, none⟩ = some (.int .i64 (m : Nat)) ∧ u.cell? ⟨g, 2, none⟩ = some (.int .i64 (d : Nat)) ∧ u.cell? ⟨g, 3, none⟩ = some (.int .i64 (h : Nat)) ∧ u.cell? ⟨g, 4, none⟩ = some (.int .i64 (ii : Nat)) ∧ u.cell? ⟨g, 5, none⟩ = some (.int .i64 (s : Nat))) := Lib.hid fun u hu => by
            have hb := HB13.out.trans (hu.mono HB13.out.size)
            exact ⟨HC0.out u hb, HC1.out u hb, HC2.out u hb, HC3.out u hb, HC4.out u hb, HC5.out u hb⟩
          clear c0 c1 c2 c3 c4 c5 HC0 HC1 HC2 HC3 HC4 HC5 z0 z1 z2 z3 z4 z5 z6 hYY HR hb13 hRs HDR HDA
          obtain ⟨c0, c1, c2, c3, c4, c5⟩ := HCS.out w13 (Below.refl _ _)
          go_upto_region 23 with (first
            | (go_at_call_of 55 (Value.int IntKind.i64 1970); refine (HY7.out _).mono ?_; rintro e wn ⟨rfl, rfl⟩)
            | (go_at_call 55; refine (HYE.out _).mono ?_; rintro e wn ⟨rfl, rfl⟩))
          clear HYE HY7 c0 c1 c2 c3 c4 c5
          go_loopg [9, 10] (m - 1) (fun gg s9 s10 wx => ∃ k : Nat, 1 ≤ k ∧ k + gg = m ∧ s10 = .int .i64 k ∧ s9 = .int .i64 (((YY + monthsS y k : Nat) : Int) - 719528) ∧ Aside (Below w13.heap.size w13 wx))
          case atStart => exact ⟨1, Nat.le_refl _, by omega, rfl, by simp [monthsS], Below.refl _ _⟩
          case round =>
            obtain ⟨k, hk1, hkm, rfl, rfl, HBX⟩ := hrel
            obtain ⟨c0, c1, c2, c3, c4, c5⟩ := HCS.out _ HBX.out
            have hMK := HML.out k hk1 (by omega)
            cases gk with
            | succ gk =>
              have hkz : (k : Int) < (m : Int) := by omega
              have hDK := HDK.out k wr hk1 (by omega)
              obtain ⟨q, rfl⟩ : ∃ q, k = q + 1 := ⟨k - 1, by omega⟩
              have hst : monthsS y (q + 1 + 1) = monthsS y (q + 1) + lenM y (q + 1) := rfl
              have hle : lenM y (q + 1) ≤ 31 := by
                have := HML.out (q + 1 + 1) (by omega) (by omega)
                unfold lenM
                split
                · omega
                · split
                  · split <;> omega
                  · omega
              generalize lenM y (q + 1) = LK at *
              have HST := Lib.hid hst
              clear hst
              generalize monthsS y (q + 1) = MK at *
              have HDK2 := Lib.hid hDK
              clear hDK
              go_wp2_with (go_at_call 57; refine (HDK2.out).mono ?_; rintro e wn ⟨rfl, hbn⟩)
              go_roundg gk
              case measure => omega
              case rel => exact ⟨q + 1 + 1, by omega, by omega, by go_num, by rw [HST.out]; go_num, HBX.out.trans (hbn.mono HBX.out.size)⟩
            | zero =>
              obtain rfl : k = m := by omega
              have hkz : ¬ (k : Int) < (k : Int) := by omega
              have HBF := Lib.hid (HBW.out.trans (HBX.out.mono HBW.out.size))
              generalize monthsS y k = MK at *
              go_upto_region 26 with fail
              have HE : Hid ((86400 * (((YY + MK : Nat) : Int) + d - 1 - 719528) + 3600 * h + 60 * ii + s : Int) = ((((YY : Int) + MK - 719528 + d - 1) * 24 + h) * 3600 + ii * 60 + s)) := Lib.hid (by omega)
              go_quiet (fail)
              go_wp2_with fail
              go_ret2
              rw [HR2.out, HE.out]
              exact ⟨rfl, below_drawn HBF.out _⟩
end Go.Proofs.YtebhiplcoioenaaGreatDoor
/- ostiaryref06.Moment of the tag 23: the walk (gen_zrmom.py). -/
namespace Go.Proofs.YtebhiplcoioenaaGreatDoor
open Go.RowKit

set_option maxRecDepth 100000 in
set_option maxHeartbeats 8000000 in
theorem rmom_23a (s0 : Bs) (w : World) (h13 : s0.length = 13) (h0 : 0 ≤ pcS s0 0 2) (hq : 50 ≤ pcS s0 0 2) : Calls Tryz.prog 52 #[.int .i64 23, .string (bs s0)] w fun e w' => e = .returned (momV (longS (49 :: 57 :: s0))) ∧ Below w.heap.size w w' := by
  have hSB := SB_eq
  have _hz := h0
  obtain ⟨L, hL⟩ : ∃ L, L = 49 :: 57 :: s0 := ⟨_, rfl⟩
  have hcat : (⟨#[49, 57]⟩ : ByteArray) ++ bs s0 = bs L := by rw [hL]; exact (bs_app2 [49, 57] s0).symm
  rw [← hL]
  have zs0 := bs_size s0
  rw [h13] at zs0
  have HN0 : Hid (∀ u, Calls Tryz.prog 48 #[.string ((bs s0).extract 0 2)] u fun e w' => e = .returned (.int .i64 (pcS s0 0 2)) ∧ u = w') := Lib.hid fun u => by
    have := number_low ((s0.take 2).drop 0) u (by simp; omega)
    rw [← bs_cut] at this
    exact this.mono fun _ _ hh => ⟨hh.1, hh.2.symm⟩
  generalize pcS s0 0 2 = NB at *
  have hn0 : ¬ NB < 0 := by omega
  have zs := bs_size L
  clear hL h13
  go_enter Tryz.func52, Tryz.ntmps52
  go_upto_region 7 with (go_at_call 48; refine (HN0.out _).mono ?_; rintro e w1 ⟨rfl, rfl⟩)
  clear hcat HN0 zs0 hn0 hq h0
  by_cases hl : L.length = 15
  case neg =>
    have q1 : ((L.length : Int) != 15) = true := by simp; omega
    have HR : Hid (longS L = none) := Lib.hid (by unfold longS; rw [if_pos (Or.inl hl)])
    clear hl
    go_wp2_with fail
    go_ret2
    rw [HR.out]
    exact ⟨rfl, Below.refl _ _⟩
  obtain ⟨x, hx⟩ : ∃ x, L[14]? = some x := ⟨L[14], List.getElem?_eq_getElem (by omega)⟩
  have hg := bs_get L 14 x hx
  rw [hl] at zs
  by_cases hxz : x = 90
  case neg =>
    have q1 : ((x.toNat : Int) != 90) = true := by
      have : x.toNat ≠ 90 := fun e => hxz (by rw [← u8_back x, e]; rfl)
      simp; omega
    have HR : Hid (longS L = none) := Lib.hid (by unfold longS; rw [if_pos (Or.inr (Or.inl (by rw [hx]; simpa using hxz)))])
    clear hx hxz
    go_wp2_with fail
    go_ret2
    rw [HR.out]
    exact ⟨rfl, Below.refl _ _⟩
  subst hxz
  have HNU : Hid (∀ a b u, Calls Tryz.prog 48 #[.string ((bs L).extract a b)] u fun e w' => e = .returned (.int .i64 (pcS L a b)) ∧ u = w') := Lib.hid fun a b u => by
    have := number_low ((L.take b).drop a) u (by simp; omega)
    rw [← bs_cut] at this
    exact this.mono fun _ _ hh => ⟨hh.1, hh.2.symm⟩
  have HX := Lib.hid (And.intro hl hx)
  clear hx hl
  go_upto_region 11 with (go_at_call 48; refine (HNU.out _ _ _).mono ?_; rintro e w1 ⟨rfl, rfl⟩)
  have hO0 := own_newZ [pcS L 0 4] #[.int .i64 (pcS L 0 4)] rfl w (by simp) (Nat.le_refl _)
  have hb0 := b_alloc w (.cells #[.int .i64 (pcS L 0 4)] 3)
  generalize w.alloc (.cells #[.int .i64 (pcS L 0 4)] 3) = w1 at *
  have HO0 := Lib.hid hO0
  have HB0 := Lib.hid hb0
  clear hO0 hb0
  go_loopg [6, 7] 5 (fun gg s6 s7 wr => ∃ (j : Nat) (V : Value), j + gg = 5 ∧ s6 = V ∧ s7 = .int .i64 ((4 + 2 * j : Nat) : Int) ∧ Aside (OwnZ w.heap.size wr V ((sixS L).take (j + 1))) ∧ Aside (Below w.heap.size w wr))
  case atStart => exact ⟨0, _, rfl, rfl, rfl, HO0.out, HB0.out⟩
  case round =>
    obtain ⟨j, V, hj, rfl, rfl, HO, HB⟩ := hrel
    clear HO0 HB0
    cases gk with
    | succ gk =>
      have hjl : j < 5 := by omega
      have hjz : ((4 + 2 * j : Nat) : Int) < 14 := by omega
      have hl6 : ((sixS L).take (j + 1)).length + 1 ≤ 3000000 := by
        have : ((sixS L).take (j + 1)).length ≤ (sixS L).length := by rw [List.length_take]; exact Nat.min_le_right _ _
        have h6 : (sixS L).length = 6 := rfl
        omega
      go_wp2_with (first
        | (go_at_call 48; refine (HNU.out _ _ _).mono ?_; rintro e w2 ⟨rfl, rfl⟩)
        | (refine wp_snocZ (w := w) (B := w.heap.size) rfl _ _ (by rfl) (pcS L (4 + 2 * j) (4 + 2 * j + 2)) (by rfl) (by rfl) HO.out (Nat.le_refl _) HB.out hl6 ?_; intro v3 w3 hO3 hb3))
      go_roundg gk
      case measure => omega
      case rel => exact ⟨j + 1, _, by omega, rfl, by go_num, by rw [← six_take L j hjl]; exact hO3, hb3⟩
    | zero =>
      obtain rfl : j = 5 := by omega
      have hO := HO.out
      have h6 : (sixS L).take (5 + 1) = sixS L := rfl
      rw [h6] at hO
      obtain ⟨g, cap, rfl, hcap, hgl, hcs⟩ := OwnZ.cells hO (by show 0 < 6; decide)
      have HCS := Lib.hid hcs
      clear hcs hO h6 HO HNU
      go_upto_region 15 with fail
      go_loopg [8] 6 (fun gg s8 wx => ∃ i : Nat, i + gg = 6 ∧ s8 = .int .i64 i ∧ Aside (∀ (j : Nat) x, j < i → (sixS L)[j]? = some x → 0 ≤ x) ∧ wx = wr)
      case atStart => exact ⟨0, rfl, rfl, fun j x h => absurd h (Nat.not_lt_zero _), rfl⟩
      case round =>
        obtain ⟨i, hi, rfl, HP, rfl⟩ := hrel
        cases gk with
        | succ gk =>
          have hil : i < 6 := by omega
          have hiz : (i : Int) < 6 := by omega
          obtain ⟨z, hz⟩ : ∃ z, (sixS L)[i]? = some z := ⟨(sixS L)[i]'(by show i < 6; exact hil), List.getElem?_eq_getElem _⟩
          have hci := HCS.out i z hz
          have HZ := Lib.hid hz
          clear hz
          by_cases hneg : z < 0
          · have HR : Hid (longS L = none) := Lib.hid (long_neg HZ.out hneg)
            go_wp2_with fail
            go_ret2
            rw [HR.out]
            exact ⟨rfl, HB.out⟩
          · have HP2 : Hid (∀ (j : Nat) x, j < i + 1 → (sixS L)[j]? = some x → 0 ≤ x) := Lib.hid fun j x hj hx => by
              rcases Nat.lt_or_ge j i with h | h
              · exact HP.out j x h hx
              · obtain rfl : j = i := by omega
                rw [HZ.out] at hx
                cases hx
                omega
            clear HP
            go_wp2_with fail
            go_roundg gk
            case measure => omega
            case rel => exact ⟨i + 1, by omega, by go_num, HP2.out, rfl⟩
        | zero =>
          have hiz : ¬ (i : Int) < 6 := by omega
          obtain ⟨y, m, d, h, ii, s, h6, by0, bm, bd, bh, bi, bz, hls⟩ := long_six HX.out.1 HX.out.2 (fun j x hx => HP.out j x (by have := (List.getElem?_eq_some_iff.1 hx).1; have h6 : (sixS L).length = 6 := rfl; omega) hx)
          have c0 := HCS.out 0 (y : Int) (by rw [h6]; rfl)
          have c1 := HCS.out 1 (m : Int) (by rw [h6]; rfl)
          have c2 := HCS.out 2 (d : Int) (by rw [h6]; rfl)
          have c3 := HCS.out 3 (h : Int) (by rw [h6]; rfl)
          have c4 := HCS.out 4 (ii : Int) (by rw [h6]; rfl)
          have c5 := HCS.out 5 (s : Int) (by rw [h6]; rfl)
          have HR := Lib.hid hls
          have hs6 : (sixS L).length = 6 := rfl
          clear HP HCS h6 hls
          have HDA : Hid (m < 1 ∨ 12 < m ∨ ∀ u, Calls Tryz.prog 57 #[.int .i64 (y : Nat), .int .i64 (m : Nat)] u fun e w' => e = .returned (.int .i64 (lenM y m : Nat)) ∧ Below u.heap.size u w') := Lib.hid (by
            by_cases h1 : m < 1
            · exact Or.inl h1
            · by_cases h2 : 12 < m
              · exact Or.inr (Or.inl h2)
              · exact Or.inr (Or.inr fun u => days_any y m u (by omega) (by omega) (by omega)))
          obtain ⟨LM, hLM⟩ : ∃ LM, LM = lenM y m := ⟨_, rfl⟩
          have HLM := Lib.hid hLM
          rw [← hLM] at HDA
          clear hLM
          go_upto_region 19 with fail
          by_cases q : m < 1
          · have HR2 : Hid (longS L = none) := Lib.hid (by rw [HR.out]; unfold timeS; rw [if_pos (by rw [← HLM.out]; exact Or.inl q)])
            have zz0 : (m : Int) < (1 : Int) := by omega
            go_quiet (fail)
            go_wp2_with fail
            go_ret2
            rw [HR2.out]
            exact ⟨rfl, below_drawn HB.out _⟩
          have n0 : ¬ (m : Int) < (1 : Int) := by omega
          have r0 := q
          clear q
          by_cases q : 12 < m
          · have HR2 : Hid (longS L = none) := Lib.hid (by rw [HR.out]; unfold timeS; rw [if_pos (by rw [← HLM.out]; exact Or.inr (Or.inl q))])
            have zz1 : (12 : Int) < (m : Int) := by omega
            go_quiet (fail)
            go_wp2_with fail
            go_ret2
            rw [HR2.out]
            exact ⟨rfl, below_drawn HB.out _⟩
          have n1 : ¬ (12 : Int) < (m : Int) := by omega
          have r1 := q
          clear q
          by_cases q : d < 1
          · have HR2 : Hid (longS L = none) := Lib.hid (by rw [HR.out]; unfold timeS; rw [if_pos (by rw [← HLM.out]; exact Or.inr (Or.inr (Or.inl q)))])
            have zz2 : (d : Int) < (1 : Int) := by omega
            go_quiet (fail)
            go_wp2_with fail
            go_ret2
            rw [HR2.out]
            exact ⟨rfl, below_drawn HB.out _⟩
          have n2 : ¬ (d : Int) < (1 : Int) := by omega
          have r2 := q
          clear q
          have HDR : Hid (∀ u, Below wr.heap.size wr u → Calls Tryz.prog 57 #[.int .i64 (y : Nat), .int .i64 (m : Nat)] u (RW (Is (.int .i64 (LM : Nat))) u)) := Lib.hid fun u _ => by
            rcases HDA.out with h1 | h1 | h1
            · exact absurd h1 r0
            · exact absurd h1 r1
            · exact (h1 u).mono fun e w' hh => rw_below hh
          have z0 : decide ((m : Int) < 1) = false := decide_eq_false (by omega)
          have z1 : decide ((12 : Int) < m) = false := decide_eq_false (by omega)
          have z2 : decide ((d : Int) < 1) = false := decide_eq_false (by omega)
          have hRs : Rws w.heap.size w wr [] := ⟨HB.out, HB.out.size, fun _ h => absurd h List.not_mem_nil, List.Pairwise.nil⟩
          have HC0 : Hid (∀ u : World, Below wr.heap.size wr u → u.cell? ⟨g, 0 + 0 * 1, none⟩ = some (.int .i64 (y : Nat))) := Lib.hid fun u hu => (hu.cell (p := ⟨g, 0, none⟩) hgl).trans c0
          have HC1 : Hid (∀ u : World, Below wr.heap.size wr u → u.cell? ⟨g, 0 + 1 * 1, none⟩ = some (.int .i64 (m : Nat))) := Lib.hid fun u hu => (hu.cell (p := ⟨g, 1, none⟩) hgl).trans c1
          have HC2 : Hid (∀ u : World, Below wr.heap.size wr u → u.cell? ⟨g, 0 + 2 * 1, none⟩ = some (.int .i64 (d : Nat))) := Lib.hid fun u hu => (hu.cell (p := ⟨g, 2, none⟩) hgl).trans c2
          have HC3 : Hid (∀ u : World, Below wr.heap.size wr u → u.cell? ⟨g, 0 + 3 * 1, none⟩ = some (.int .i64 (h : Nat))) := Lib.hid fun u hu => (hu.cell (p := ⟨g, 3, none⟩) hgl).trans c3
          have HC4 : Hid (∀ u : World, Below wr.heap.size wr u → u.cell? ⟨g, 0 + 4 * 1, none⟩ = some (.int .i64 (ii : Nat))) := Lib.hid fun u hu => (hu.cell (p := ⟨g, 4, none⟩) hgl).trans c4
          have HC5 : Hid (∀ u : World, Below wr.heap.size wr u → u.cell? ⟨g, 0 + 5 * 1, none⟩ = some (.int .i64 (s : Nat))) := Lib.hid fun u hu => (hu.cell (p := ⟨g, 5, none⟩) hgl).trans c5
          by_cases q : LM < d
          · have HR2 : Hid (longS L = none) := Lib.hid (by rw [HR.out]; unfold timeS; rw [if_pos (by rw [← HLM.out]; exact Or.inr (Or.inr (Or.inr (Or.inl q))))])
            have z3 : decide ((LM : Int) < (d : Int)) = true := decide_eq_true (by omega)
            refine wp_region_softG 46 (by kernel_rfl) (by kernel_rfl) (by rfl) hRs ?_
            refine g_move (R := Is (.slice (some ⟨g, 0, none⟩) 6 cap)) (by rfl) (stb_is _) (by exact fun _ _ _ h => h) ?_
            refine g_ixi (b := g) (f := 0) (len := 6) (c := cap) (i := 1) (by rfl) (by exact fun _ _ _ h => h) (by exact fun _ _ _ h => h) (by decide) ?_
            refine g_cellw (g := g) (k := 0 + 1 * 1) (v := .int .i64 (m : Nat)) (R := Is (.int .i64 (m : Nat))) (by rfl) (by exact fun _ _ _ h => h) (HC1.out) isAgg_int (stb_is _) (by exact fun _ _ => rfl) ?_
            refine g_bin (v := .int .i64 (m : Nat)) (u := .int .i64 1) (r := .bool false) (by rfl) (by exact fun _ _ _ h => h) (by exact fun _ _ _ h => h) (by rfl) (fun W => bin_lssI (r := false) _ _ z0 W) ?_
            refine g_move (R := Is (.bool false)) (by rfl) (stb_is _) (by exact fun _ _ _ h => h) ?_
            refine g_move (R := Is (.slice (some ⟨g, 0, none⟩) 6 cap)) (by rfl) (stb_is _) (by exact fun _ _ _ h => h) ?_
            refine g_ixi (b := g) (f := 0) (len := 6) (c := cap) (i := 1) (by rfl) (by exact fun _ _ _ h => h) (by exact fun _ _ _ h => h) (by decide) ?_
            refine g_cellw (g := g) (k := 0 + 1 * 1) (v := .int .i64 (m : Nat)) (R := Is (.int .i64 (m : Nat))) (by rfl) (by exact fun _ _ _ h => h) (HC1.out) isAgg_int (stb_is _) (by exact fun _ _ => rfl) ?_
            refine g_bin (v := .int .i64 (m : Nat)) (u := .int .i64 12) (r := .bool false) (by rfl) (by exact fun _ _ _ h => h) (by exact fun _ _ _ h => h) (by rfl) (fun W => bin_gtrI (r := false) _ _ z1 W) ?_
            refine g_pick (b := false) (R := Is (.bool false)) (by rfl) (by exact fun _ _ _ h => h) (stb_is _) (by exact fun _ _ _ h => h) ?_
            refine g_move (R := Is (.bool false)) (by rfl) (stb_is _) (by exact fun _ _ _ h => h) ?_
            refine g_move (R := Is (.slice (some ⟨g, 0, none⟩) 6 cap)) (by rfl) (stb_is _) (by exact fun _ _ _ h => h) ?_
            refine g_ixi (b := g) (f := 0) (len := 6) (c := cap) (i := 2) (by rfl) (by exact fun _ _ _ h => h) (by exact fun _ _ _ h => h) (by decide) ?_
            refine g_cellw (g := g) (k := 0 + 2 * 1) (v := .int .i64 (d : Nat)) (R := Is (.int .i64 (d : Nat))) (by rfl) (by exact fun _ _ _ h => h) (HC2.out) isAgg_int (stb_is _) (by exact fun _ _ => rfl) ?_
            refine g_bin (v := .int .i64 (d : Nat)) (u := .int .i64 1) (r := .bool false) (by rfl) (by exact fun _ _ _ h => h) (by exact fun _ _ _ h => h) (by rfl) (fun W => bin_lssI (r := false) _ _ z2 W) ?_
            refine g_pick (b := false) (R := Is (.bool false)) (by rfl) (by exact fun _ _ _ h => h) (stb_is _) (by exact fun _ _ _ h => h) ?_
            refine g_move (R := Is (.bool false)) (by rfl) (stb_is _) (by exact fun _ _ _ h => h) ?_
            refine g_move (R := Is (.slice (some ⟨g, 0, none⟩) 6 cap)) (by rfl) (stb_is _) (by exact fun _ _ _ h => h) ?_
            refine g_ixi (b := g) (f := 0) (len := 6) (c := cap) (i := 2) (by rfl) (by exact fun _ _ _ h => h) (by exact fun _ _ _ h => h) (by decide) ?_
            refine g_cellw (g := g) (k := 0 + 2 * 1) (v := .int .i64 (d : Nat)) (R := Is (.int .i64 (d : Nat))) (by rfl) (by exact fun _ _ _ h => h) (HC2.out) isAgg_int (stb_is _) (by exact fun _ _ => rfl) ?_
            refine g_move (R := Is (.slice (some ⟨g, 0, none⟩) 6 cap)) (by rfl) (stb_is _) (by exact fun _ _ _ h => h) ?_
            refine g_ixi (b := g) (f := 0) (len := 6) (c := cap) (i := 0) (by rfl) (by exact fun _ _ _ h => h) (by exact fun _ _ _ h => h) (by decide) ?_
            refine g_cellw (g := g) (k := 0 + 0 * 1) (v := .int .i64 (y : Nat)) (R := Is (.int .i64 (y : Nat))) (by rfl) (by exact fun _ _ _ h => h) (HC0.out) isAgg_int (stb_is _) (by exact fun _ _ => rfl) ?_
            refine g_move (R := Is (.slice (some ⟨g, 0, none⟩) 6 cap)) (by rfl) (stb_is _) (by exact fun _ _ _ h => h) ?_
            refine g_ixi (b := g) (f := 0) (len := 6) (c := cap) (i := 1) (by rfl) (by exact fun _ _ _ h => h) (by exact fun _ _ _ h => h) (by decide) ?_
            refine g_cellw (g := g) (k := 0 + 1 * 1) (v := .int .i64 (m : Nat)) (R := Is (.int .i64 (m : Nat))) (by rfl) (by exact fun _ _ _ h => h) (HC1.out) isAgg_int (stb_is _) (by exact fun _ _ => rfl) ?_
            refine g_callK (f := 57) (xs := [.tmp 86, .tmp 89]) [.int .i64 (y : Nat), .int .i64 (m : Nat)] (R := Is (.int .i64 (LM : Nat))) (by rfl) Tryz.func57 (by kernel_rfl) rfl (stb_is _) ⟨(by exact fun _ _ _ h => h), (by exact fun _ _ _ h => h), trivial⟩ (HDR.out) ?_
            refine g_bin (v := .int .i64 (d : Nat)) (u := .int .i64 (LM : Nat)) (r := .bool true) (by rfl) (by exact fun _ _ _ h => h) (by exact fun _ _ _ h => h) (by rfl) (fun W => bin_gtrI (r := true) _ _ z3 W) ?_
            refine g_pick (b := false) (R := Is (.bool true)) (by rfl) (by exact fun _ _ _ h => h) (stb_is _) (by exact fun _ _ _ h => h) ?_
            refine g_move (R := Is (.bool true)) (by rfl) (stb_is _) (by exact fun _ _ _ h => h) ?_
            refine g_dead (dead_of rfl rfl (fun _ _ _ h => h) (by rfl)) ?_
            refine g_dead (dead_of rfl rfl (fun _ _ _ h => h) (by rfl)) ?_
            refine g_dead (dead_of rfl rfl (fun _ _ _ h => h) (by rfl)) ?_
            refine g_dead (dead_of rfl rfl (fun _ _ _ h => h) (by rfl)) ?_
            refine g_pick (b := true) (R := Is (.bool true)) (by rfl) (by exact fun _ _ _ h => h) (stb_is _) (by exact fun _ _ _ h => h) ?_
            refine g_move (R := Is (.bool true)) (by rfl) (stb_is _) (by exact fun _ _ _ h => h) ?_
            refine g_dead (dead_of rfl rfl (fun _ _ _ h => h) (by rfl)) ?_
            refine g_dead (dead_of rfl rfl (fun _ _ _ h => h) (by rfl)) ?_
            refine g_dead (dead_of rfl rfl (fun _ _ _ h => h) (by rfl)) ?_
            refine g_dead (dead_of rfl rfl (fun _ _ _ h => h) (by rfl)) ?_
            refine g_pick (b := true) (R := Is (.bool true)) (by rfl) (by exact fun _ _ _ h => h) (stb_is _) (by exact fun _ _ _ h => h) ?_
            refine g_move (R := Is (.bool true)) (by rfl) (stb_is _) (by exact fun _ _ _ h => h) ?_
            refine g_dead (dead_of rfl rfl (fun _ _ _ h => h) (by rfl)) ?_
            refine g_dead (dead_of rfl rfl (fun _ _ _ h => h) (by rfl)) ?_
            refine g_dead (dead_of rfl rfl (fun _ _ _ h => h) (by rfl)) ?_
            refine g_dead (dead_of rfl rfl (fun _ _ _ h => h) (by rfl)) ?_
            intro w13 hR13 hb13 v64 h64 v65 h65 v66 h66 v67 h67 v68 h68 v69 h69 v70 h70 v71 h71 v72 h72 v73 h73 v74 h74 v75 h75 v76 h76 v77 h77 v78 h78 v79 h79 v80 h80 v81 h81 v82 h82 v83 h83 v84 h84 v85 h85 v86 h86 v87 h87 v88 h88 v89 h89 v90 h90 v91 h91 v92 h92 v93 h93 v94 h94 v95 h95 v96 h96 v97 h97 v98 h98 v99 h99 v100 h100 v101 h101 v102 h102 v103 h103 v104 h104 v105 h105 v106 h106 v107 h107 v108 h108 v109 h109
            simp only [softEnd, Act.put, List.setIfInBounds_toArray, List.set_cons_succ, List.set_cons_zero, List.drop_succ_cons, List.drop_zero]
            obtain rfl : v105 = .bool true := h105
            clear h64 h65 h66 h67 h68 h69 h70 h71 h72 h73 h74 h75 h76 h77 h78 h79 h80 h81 h82 h83 h84 h85 h86 h87 h88 h89 h90 h91 h92 h93 h94 h95 h96 h97 h98 h99 h100 h101 h102 h103 h104 h106 h107 h108 h109
            go_wp2_with fail
            go_ret2
            rw [HR2.out]
            exact ⟨rfl, hR13.below⟩
          have z3 : decide ((LM : Int) < (d : Int)) = false := decide_eq_false (by omega)
          have r3 := q
          clear q
          by_cases q : 23 < h
          · have HR2 : Hid (longS L = none) := Lib.hid (by rw [HR.out]; unfold timeS; rw [if_pos (by rw [← HLM.out]; exact Or.inr (Or.inr (Or.inr (Or.inr (Or.inl q)))))])
            have z4 : decide ((23 : Int) < (h : Int)) = true := decide_eq_true (by omega)
            refine wp_region_softG 46 (by kernel_rfl) (by kernel_rfl) (by rfl) hRs ?_
            refine g_move (R := Is (.slice (some ⟨g, 0, none⟩) 6 cap)) (by rfl) (stb_is _) (by exact fun _ _ _ h => h) ?_
            refine g_ixi (b := g) (f := 0) (len := 6) (c := cap) (i := 1) (by rfl) (by exact fun _ _ _ h => h) (by exact fun _ _ _ h => h) (by decide) ?_
            refine g_cellw (g := g) (k := 0 + 1 * 1) (v := .int .i64 (m : Nat)) (R := Is (.int .i64 (m : Nat))) (by rfl) (by exact fun _ _ _ h => h) (HC1.out) isAgg_int (stb_is _) (by exact fun _ _ => rfl) ?_
            refine g_bin (v := .int .i64 (m : Nat)) (u := .int .i64 1) (r := .bool false) (by rfl) (by exact fun _ _ _ h => h) (by exact fun _ _ _ h => h) (by rfl) (fun W => bin_lssI (r := false) _ _ z0 W) ?_
            refine g_move (R := Is (.bool false)) (by rfl) (stb_is _) (by exact fun _ _ _ h => h) ?_
            refine g_move (R := Is (.slice (some ⟨g, 0, none⟩) 6 cap)) (by rfl) (stb_is _) (by exact fun _ _ _ h => h) ?_
            refine g_ixi (b := g) (f := 0) (len := 6) (c := cap) (i := 1) (by rfl) (by exact fun _ _ _ h => h) (by exact fun _ _ _ h => h) (by decide) ?_
            refine g_cellw (g := g) (k := 0 + 1 * 1) (v := .int .i64 (m : Nat)) (R := Is (.int .i64 (m : Nat))) (by rfl) (by exact fun _ _ _ h => h) (HC1.out) isAgg_int (stb_is _) (by exact fun _ _ => rfl) ?_
            refine g_bin (v := .int .i64 (m : Nat)) (u := .int .i64 12) (r := .bool false) (by rfl) (by exact fun _ _ _ h => h) (by exact fun _ _ _ h => h) (by rfl) (fun W => bin_gtrI (r := false) _ _ z1 W) ?_
            refine g_pick (b := false) (R := Is (.bool false)) (by rfl) (by exact fun _ _ _ h => h) (stb_is _) (by exact fun _ _ _ h => h) ?_
            refine g_move (R := Is (.bool false)) (by rfl) (stb_is _) (by exact fun _ _ _ h => h) ?_
            refine g_move (R := Is (.slice (some ⟨g, 0, none⟩) 6 cap)) (by rfl) (stb_is _) (by exact fun _ _ _ h => h) ?_
            refine g_ixi (b := g) (f := 0) (len := 6) (c := cap) (i := 2) (by rfl) (by exact fun _ _ _ h => h) (by exact fun _ _ _ h => h) (by decide) ?_
            refine g_cellw (g := g) (k := 0 + 2 * 1) (v := .int .i64 (d : Nat)) (R := Is (.int .i64 (d : Nat))) (by rfl) (by exact fun _ _ _ h => h) (HC2.out) isAgg_int (stb_is _) (by exact fun _ _ => rfl) ?_
            refine g_bin (v := .int .i64 (d : Nat)) (u := .int .i64 1) (r := .bool false) (by rfl) (by exact fun _ _ _ h => h) (by exact fun _ _ _ h => h) (by rfl) (fun W => bin_lssI (r := false) _ _ z2 W) ?_
            refine g_pick (b := false) (R := Is (.bool false)) (by rfl) (by exact fun _ _ _ h => h) (stb_is _) (by exact fun _ _ _ h => h) ?_
            refine g_move (R := Is (.bool false)) (by rfl) (stb_is _) (by exact fun _ _ _ h => h) ?_
            refine g_move (R := Is (.slice (some ⟨g, 0, none⟩) 6 cap)) (by rfl) (stb_is _) (by exact fun _ _ _ h => h) ?_
            refine g_ixi (b := g) (f := 0) (len := 6) (c := cap) (i := 2) (by rfl) (by exact fun _ _ _ h => h) (by exact fun _ _ _ h => h) (by decide) ?_
            refine g_cellw (g := g) (k := 0 + 2 * 1) (v := .int .i64 (d : Nat)) (R := Is (.int .i64 (d : Nat))) (by rfl) (by exact fun _ _ _ h => h) (HC2.out) isAgg_int (stb_is _) (by exact fun _ _ => rfl) ?_
            refine g_move (R := Is (.slice (some ⟨g, 0, none⟩) 6 cap)) (by rfl) (stb_is _) (by exact fun _ _ _ h => h) ?_
            refine g_ixi (b := g) (f := 0) (len := 6) (c := cap) (i := 0) (by rfl) (by exact fun _ _ _ h => h) (by exact fun _ _ _ h => h) (by decide) ?_
            refine g_cellw (g := g) (k := 0 + 0 * 1) (v := .int .i64 (y : Nat)) (R := Is (.int .i64 (y : Nat))) (by rfl) (by exact fun _ _ _ h => h) (HC0.out) isAgg_int (stb_is _) (by exact fun _ _ => rfl) ?_
            refine g_move (R := Is (.slice (some ⟨g, 0, none⟩) 6 cap)) (by rfl) (stb_is _) (by exact fun _ _ _ h => h) ?_
            refine g_ixi (b := g) (f := 0) (len := 6) (c := cap) (i := 1) (by rfl) (by exact fun _ _ _ h => h) (by exact fun _ _ _ h => h) (by decide) ?_
            refine g_cellw (g := g) (k := 0 + 1 * 1) (v := .int .i64 (m : Nat)) (R := Is (.int .i64 (m : Nat))) (by rfl) (by exact fun _ _ _ h => h) (HC1.out) isAgg_int (stb_is _) (by exact fun _ _ => rfl) ?_
            refine g_callK (f := 57) (xs := [.tmp 86, .tmp 89]) [.int .i64 (y : Nat), .int .i64 (m : Nat)] (R := Is (.int .i64 (LM : Nat))) (by rfl) Tryz.func57 (by kernel_rfl) rfl (stb_is _) ⟨(by exact fun _ _ _ h => h), (by exact fun _ _ _ h => h), trivial⟩ (HDR.out) ?_
            refine g_bin (v := .int .i64 (d : Nat)) (u := .int .i64 (LM : Nat)) (r := .bool false) (by rfl) (by exact fun _ _ _ h => h) (by exact fun _ _ _ h => h) (by rfl) (fun W => bin_gtrI (r := false) _ _ z3 W) ?_
            refine g_pick (b := false) (R := Is (.bool false)) (by rfl) (by exact fun _ _ _ h => h) (stb_is _) (by exact fun _ _ _ h => h) ?_
            refine g_move (R := Is (.bool false)) (by rfl) (stb_is _) (by exact fun _ _ _ h => h) ?_
            refine g_move (R := Is (.slice (some ⟨g, 0, none⟩) 6 cap)) (by rfl) (stb_is _) (by exact fun _ _ _ h => h) ?_
            refine g_ixi (b := g) (f := 0) (len := 6) (c := cap) (i := 3) (by rfl) (by exact fun _ _ _ h => h) (by exact fun _ _ _ h => h) (by decide) ?_
            refine g_cellw (g := g) (k := 0 + 3 * 1) (v := .int .i64 (h : Nat)) (R := Is (.int .i64 (h : Nat))) (by rfl) (by exact fun _ _ _ h => h) (HC3.out) isAgg_int (stb_is _) (by exact fun _ _ => rfl) ?_
            refine g_bin (v := .int .i64 (h : Nat)) (u := .int .i64 23) (r := .bool true) (by rfl) (by exact fun _ _ _ h => h) (by exact fun _ _ _ h => h) (by rfl) (fun W => bin_gtrI (r := true) _ _ z4 W) ?_
            refine g_pick (b := false) (R := Is (.bool true)) (by rfl) (by exact fun _ _ _ h => h) (stb_is _) (by exact fun _ _ _ h => h) ?_
            refine g_move (R := Is (.bool true)) (by rfl) (stb_is _) (by exact fun _ _ _ h => h) ?_
            refine g_dead (dead_of rfl rfl (fun _ _ _ h => h) (by rfl)) ?_
            refine g_dead (dead_of rfl rfl (fun _ _ _ h => h) (by rfl)) ?_
            refine g_dead (dead_of rfl rfl (fun _ _ _ h => h) (by rfl)) ?_
            refine g_dead (dead_of rfl rfl (fun _ _ _ h => h) (by rfl)) ?_
            refine g_pick (b := true) (R := Is (.bool true)) (by rfl) (by exact fun _ _ _ h => h) (stb_is _) (by exact fun _ _ _ h => h) ?_
            refine g_move (R := Is (.bool true)) (by rfl) (stb_is _) (by exact fun _ _ _ h => h) ?_
            refine g_dead (dead_of rfl rfl (fun _ _ _ h => h) (by rfl)) ?_
            refine g_dead (dead_of rfl rfl (fun _ _ _ h => h) (by rfl)) ?_
            refine g_dead (dead_of rfl rfl (fun _ _ _ h => h) (by rfl)) ?_
            refine g_dead (dead_of rfl rfl (fun _ _ _ h => h) (by rfl)) ?_
            intro w13 hR13 hb13 v64 h64 v65 h65 v66 h66 v67 h67 v68 h68 v69 h69 v70 h70 v71 h71 v72 h72 v73 h73 v74 h74 v75 h75 v76 h76 v77 h77 v78 h78 v79 h79 v80 h80 v81 h81 v82 h82 v83 h83 v84 h84 v85 h85 v86 h86 v87 h87 v88 h88 v89 h89 v90 h90 v91 h91 v92 h92 v93 h93 v94 h94 v95 h95 v96 h96 v97 h97 v98 h98 v99 h99 v100 h100 v101 h101 v102 h102 v103 h103 v104 h104 v105 h105 v106 h106 v107 h107 v108 h108 v109 h109
            simp only [softEnd, Act.put, List.setIfInBounds_toArray, List.set_cons_succ, List.set_cons_zero, List.drop_succ_cons, List.drop_zero]
            obtain rfl : v105 = .bool true := h105
            clear h64 h65 h66 h67 h68 h69 h70 h71 h72 h73 h74 h75 h76 h77 h78 h79 h80 h81 h82 h83 h84 h85 h86 h87 h88 h89 h90 h91 h92 h93 h94 h95 h96 h97 h98 h99 h100 h101 h102 h103 h104 h106 h107 h108 h109
            go_wp2_with fail
            go_ret2
            rw [HR2.out]
            exact ⟨rfl, hR13.below⟩
          have z4 : decide ((23 : Int) < (h : Int)) = false := decide_eq_false (by omega)
          have r4 := q
          clear q
          by_cases q : 59 < ii
          · have HR2 : Hid (longS L = none) := Lib.hid (by rw [HR.out]; unfold timeS; rw [if_pos (by rw [← HLM.out]; exact Or.inr (Or.inr (Or.inr (Or.inr (Or.inr (Or.inl q))))))])
            have z5 : decide ((59 : Int) < (ii : Int)) = true := decide_eq_true (by omega)
            refine wp_region_softG 46 (by kernel_rfl) (by kernel_rfl) (by rfl) hRs ?_
            refine g_move (R := Is (.slice (some ⟨g, 0, none⟩) 6 cap)) (by rfl) (stb_is _) (by exact fun _ _ _ h => h) ?_
            refine g_ixi (b := g) (f := 0) (len := 6) (c := cap) (i := 1) (by rfl) (by exact fun _ _ _ h => h) (by exact fun _ _ _ h => h) (by decide) ?_
            refine g_cellw (g := g) (k := 0 + 1 * 1) (v := .int .i64 (m : Nat)) (R := Is (.int .i64 (m : Nat))) (by rfl) (by exact fun _ _ _ h => h) (HC1.out) isAgg_int (stb_is _) (by exact fun _ _ => rfl) ?_
            refine g_bin (v := .int .i64 (m : Nat)) (u := .int .i64 1) (r := .bool false) (by rfl) (by exact fun _ _ _ h => h) (by exact fun _ _ _ h => h) (by rfl) (fun W => bin_lssI (r := false) _ _ z0 W) ?_
            refine g_move (R := Is (.bool false)) (by rfl) (stb_is _) (by exact fun _ _ _ h => h) ?_
            refine g_move (R := Is (.slice (some ⟨g, 0, none⟩) 6 cap)) (by rfl) (stb_is _) (by exact fun _ _ _ h => h) ?_
            refine g_ixi (b := g) (f := 0) (len := 6) (c := cap) (i := 1) (by rfl) (by exact fun _ _ _ h => h) (by exact fun _ _ _ h => h) (by decide) ?_
            refine g_cellw (g := g) (k := 0 + 1 * 1) (v := .int .i64 (m : Nat)) (R := Is (.int .i64 (m : Nat))) (by rfl) (by exact fun _ _ _ h => h) (HC1.out) isAgg_int (stb_is _) (by exact fun _ _ => rfl) ?_
            refine g_bin (v := .int .i64 (m : Nat)) (u := .int .i64 12) (r := .bool false) (by rfl) (by exact fun _ _ _ h => h) (by exact fun _ _ _ h => h) (by rfl) (fun W => bin_gtrI (r := false) _ _ z1 W) ?_
            refine g_pick (b := false) (R := Is (.bool false)) (by rfl) (by exact fun _ _ _ h => h) (stb_is _) (by exact fun _ _ _ h => h) ?_
            refine g_move (R := Is (.bool false)) (by rfl) (stb_is _) (by exact fun _ _ _ h => h) ?_
            refine g_move (R := Is (.slice (some ⟨g, 0, none⟩) 6 cap)) (by rfl) (stb_is _) (by exact fun _ _ _ h => h) ?_
            refine g_ixi (b := g) (f := 0) (len := 6) (c := cap) (i := 2) (by rfl) (by exact fun _ _ _ h => h) (by exact fun _ _ _ h => h) (by decide) ?_
            refine g_cellw (g := g) (k := 0 + 2 * 1) (v := .int .i64 (d : Nat)) (R := Is (.int .i64 (d : Nat))) (by rfl) (by exact fun _ _ _ h => h) (HC2.out) isAgg_int (stb_is _) (by exact fun _ _ => rfl) ?_
            refine g_bin (v := .int .i64 (d : Nat)) (u := .int .i64 1) (r := .bool false) (by rfl) (by exact fun _ _ _ h => h) (by exact fun _ _ _ h => h) (by rfl) (fun W => bin_lssI (r := false) _ _ z2 W) ?_
            refine g_pick (b := false) (R := Is (.bool false)) (by rfl) (by exact fun _ _ _ h => h) (stb_is _) (by exact fun _ _ _ h => h) ?_
            refine g_move (R := Is (.bool false)) (by rfl) (stb_is _) (by exact fun _ _ _ h => h) ?_
            refine g_move (R := Is (.slice (some ⟨g, 0, none⟩) 6 cap)) (by rfl) (stb_is _) (by exact fun _ _ _ h => h) ?_
            refine g_ixi (b := g) (f := 0) (len := 6) (c := cap) (i := 2) (by rfl) (by exact fun _ _ _ h => h) (by exact fun _ _ _ h => h) (by decide) ?_
            refine g_cellw (g := g) (k := 0 + 2 * 1) (v := .int .i64 (d : Nat)) (R := Is (.int .i64 (d : Nat))) (by rfl) (by exact fun _ _ _ h => h) (HC2.out) isAgg_int (stb_is _) (by exact fun _ _ => rfl) ?_
            refine g_move (R := Is (.slice (some ⟨g, 0, none⟩) 6 cap)) (by rfl) (stb_is _) (by exact fun _ _ _ h => h) ?_
            refine g_ixi (b := g) (f := 0) (len := 6) (c := cap) (i := 0) (by rfl) (by exact fun _ _ _ h => h) (by exact fun _ _ _ h => h) (by decide) ?_
            refine g_cellw (g := g) (k := 0 + 0 * 1) (v := .int .i64 (y : Nat)) (R := Is (.int .i64 (y : Nat))) (by rfl) (by exact fun _ _ _ h => h) (HC0.out) isAgg_int (stb_is _) (by exact fun _ _ => rfl) ?_
            refine g_move (R := Is (.slice (some ⟨g, 0, none⟩) 6 cap)) (by rfl) (stb_is _) (by exact fun _ _ _ h => h) ?_
            refine g_ixi (b := g) (f := 0) (len := 6) (c := cap) (i := 1) (by rfl) (by exact fun _ _ _ h => h) (by exact fun _ _ _ h => h) (by decide) ?_
            refine g_cellw (g := g) (k := 0 + 1 * 1) (v := .int .i64 (m : Nat)) (R := Is (.int .i64 (m : Nat))) (by rfl) (by exact fun _ _ _ h => h) (HC1.out) isAgg_int (stb_is _) (by exact fun _ _ => rfl) ?_
            refine g_callK (f := 57) (xs := [.tmp 86, .tmp 89]) [.int .i64 (y : Nat), .int .i64 (m : Nat)] (R := Is (.int .i64 (LM : Nat))) (by rfl) Tryz.func57 (by kernel_rfl) rfl (stb_is _) ⟨(by exact fun _ _ _ h => h), (by exact fun _ _ _ h => h), trivial⟩ (HDR.out) ?_
            refine g_bin (v := .int .i64 (d : Nat)) (u := .int .i64 (LM : Nat)) (r := .bool false) (by rfl) (by exact fun _ _ _ h => h) (by exact fun _ _ _ h => h) (by rfl) (fun W => bin_gtrI (r := false) _ _ z3 W) ?_
            refine g_pick (b := false) (R := Is (.bool false)) (by rfl) (by exact fun _ _ _ h => h) (stb_is _) (by exact fun _ _ _ h => h) ?_
            refine g_move (R := Is (.bool false)) (by rfl) (stb_is _) (by exact fun _ _ _ h => h) ?_
            refine g_move (R := Is (.slice (some ⟨g, 0, none⟩) 6 cap)) (by rfl) (stb_is _) (by exact fun _ _ _ h => h) ?_
            refine g_ixi (b := g) (f := 0) (len := 6) (c := cap) (i := 3) (by rfl) (by exact fun _ _ _ h => h) (by exact fun _ _ _ h => h) (by decide) ?_
            refine g_cellw (g := g) (k := 0 + 3 * 1) (v := .int .i64 (h : Nat)) (R := Is (.int .i64 (h : Nat))) (by rfl) (by exact fun _ _ _ h => h) (HC3.out) isAgg_int (stb_is _) (by exact fun _ _ => rfl) ?_
            refine g_bin (v := .int .i64 (h : Nat)) (u := .int .i64 23) (r := .bool false) (by rfl) (by exact fun _ _ _ h => h) (by exact fun _ _ _ h => h) (by rfl) (fun W => bin_gtrI (r := false) _ _ z4 W) ?_
            refine g_pick (b := false) (R := Is (.bool false)) (by rfl) (by exact fun _ _ _ h => h) (stb_is _) (by exact fun _ _ _ h => h) ?_
            refine g_move (R := Is (.bool false)) (by rfl) (stb_is _) (by exact fun _ _ _ h => h) ?_
            refine g_move (R := Is (.slice (some ⟨g, 0, none⟩) 6 cap)) (by rfl) (stb_is _) (by exact fun _ _ _ h => h) ?_
            refine g_ixi (b := g) (f := 0) (len := 6) (c := cap) (i := 4) (by rfl) (by exact fun _ _ _ h => h) (by exact fun _ _ _ h => h) (by decide) ?_
            refine g_cellw (g := g) (k := 0 + 4 * 1) (v := .int .i64 (ii : Nat)) (R := Is (.int .i64 (ii : Nat))) (by rfl) (by exact fun _ _ _ h => h) (HC4.out) isAgg_int (stb_is _) (by exact fun _ _ => rfl) ?_
            refine g_bin (v := .int .i64 (ii : Nat)) (u := .int .i64 59) (r := .bool true) (by rfl) (by exact fun _ _ _ h => h) (by exact fun _ _ _ h => h) (by rfl) (fun W => bin_gtrI (r := true) _ _ z5 W) ?_
            refine g_pick (b := false) (R := Is (.bool true)) (by rfl) (by exact fun _ _ _ h => h) (stb_is _) (by exact fun _ _ _ h => h) ?_
            refine g_move (R := Is (.bool true)) (by rfl) (stb_is _) (by exact fun _ _ _ h => h) ?_
            refine g_dead (dead_of rfl rfl (fun _ _ _ h => h) (by rfl)) ?_
            refine g_dead (dead_of rfl rfl (fun _ _ _ h => h) (by rfl)) ?_
            refine g_dead (dead_of rfl rfl (fun _ _ _ h => h) (by rfl)) ?_
            refine g_dead (dead_of rfl rfl (fun _ _ _ h => h) (by rfl)) ?_
            intro w13 hR13 hb13 v64 h64 v65 h65 v66 h66 v67 h67 v68 h68 v69 h69 v70 h70 v71 h71 v72 h72 v73 h73 v74 h74 v75 h75 v76 h76 v77 h77 v78 h78 v79 h79 v80 h80 v81 h81 v82 h82 v83 h83 v84 h84 v85 h85 v86 h86 v87 h87 v88 h88 v89 h89 v90 h90 v91 h91 v92 h92 v93 h93 v94 h94 v95 h95 v96 h96 v97 h97 v98 h98 v99 h99 v100 h100 v101 h101 v102 h102 v103 h103 v104 h104 v105 h105 v106 h106 v107 h107 v108 h108 v109 h109
            simp only [softEnd, Act.put, List.setIfInBounds_toArray, List.set_cons_succ, List.set_cons_zero, List.drop_succ_cons, List.drop_zero]
            obtain rfl : v105 = .bool true := h105
            clear h64 h65 h66 h67 h68 h69 h70 h71 h72 h73 h74 h75 h76 h77 h78 h79 h80 h81 h82 h83 h84 h85 h86 h87 h88 h89 h90 h91 h92 h93 h94 h95 h96 h97 h98 h99 h100 h101 h102 h103 h104 h106 h107 h108 h109
            go_wp2_with fail
            go_ret2
            rw [HR2.out]
            exact ⟨rfl, hR13.below⟩
          have z5 : decide ((59 : Int) < (ii : Int)) = false := decide_eq_false (by omega)
          have r5 := q
          clear q
          by_cases q : 59 < s
          · have HR2 : Hid (longS L = none) := Lib.hid (by rw [HR.out]; unfold timeS; rw [if_pos (by rw [← HLM.out]; exact Or.inr (Or.inr (Or.inr (Or.inr (Or.inr (Or.inr (q)))))))])
            have z6 : decide ((59 : Int) < (s : Int)) = true := decide_eq_true (by omega)
            refine wp_region_softG 46 (by kernel_rfl) (by kernel_rfl) (by rfl) hRs ?_
            refine g_move (R := Is (.slice (some ⟨g, 0, none⟩) 6 cap)) (by rfl) (stb_is _) (by exact fun _ _ _ h => h) ?_
            refine g_ixi (b := g) (f := 0) (len := 6) (c := cap) (i := 1) (by rfl) (by exact fun _ _ _ h => h) (by exact fun _ _ _ h => h) (by decide) ?_
            refine g_cellw (g := g) (k := 0 + 1 * 1) (v := .int .i64 (m : Nat)) (R := Is (.int .i64 (m : Nat))) (by rfl) (by exact fun _ _ _ h => h) (HC1.out) isAgg_int (stb_is _) (by exact fun _ _ => rfl) ?_
            refine g_bin (v := .int .i64 (m : Nat)) (u := .int .i64 1) (r := .bool false) (by rfl) (by exact fun _ _ _ h => h) (by exact fun _ _ _ h => h) (by rfl) (fun W => bin_lssI (r := false) _ _ z0 W) ?_
            refine g_move (R := Is (.bool false)) (by rfl) (stb_is _) (by exact fun _ _ _ h => h) ?_
            refine g_move (R := Is (.slice (some ⟨g, 0, none⟩) 6 cap)) (by rfl) (stb_is _) (by exact fun _ _ _ h => h) ?_
            refine g_ixi (b := g) (f := 0) (len := 6) (c := cap) (i := 1) (by rfl) (by exact fun _ _ _ h => h) (by exact fun _ _ _ h => h) (by decide) ?_
            refine g_cellw (g := g) (k := 0 + 1 * 1) (v := .int .i64 (m : Nat)) (R := Is (.int .i64 (m : Nat))) (by rfl) (by exact fun _ _ _ h => h) (HC1.out) isAgg_int (stb_is _) (by exact fun _ _ => rfl) ?_
            refine g_bin (v := .int .i64 (m : Nat)) (u := .int .i64 12) (r := .bool false) (by rfl) (by exact fun _ _ _ h => h) (by exact fun _ _ _ h => h) (by rfl) (fun W => bin_gtrI (r := false) _ _ z1 W) ?_
            refine g_pick (b := false) (R := Is (.bool false)) (by rfl) (by exact fun _ _ _ h => h) (stb_is _) (by exact fun _ _ _ h => h) ?_
            refine g_move (R := Is (.bool false)) (by rfl) (stb_is _) (by exact fun _ _ _ h => h) ?_
            refine g_move (R := Is (.slice (some ⟨g, 0, none⟩) 6 cap)) (by rfl) (stb_is _) (by exact fun _ _ _ h => h) ?_
            refine g_ixi (b := g) (f := 0) (len := 6) (c := cap) (i := 2) (by rfl) (by exact fun _ _ _ h => h) (by exact fun _ _ _ h => h) (by decide) ?_
            refine g_cellw (g := g) (k := 0 + 2 * 1) (v := .int .i64 (d : Nat)) (R := Is (.int .i64 (d : Nat))) (by rfl) (by exact fun _ _ _ h => h) (HC2.out) isAgg_int (stb_is _) (by exact fun _ _ => rfl) ?_
            refine g_bin (v := .int .i64 (d : Nat)) (u := .int .i64 1) (r := .bool false) (by rfl) (by exact fun _ _ _ h => h) (by exact fun _ _ _ h => h) (by rfl) (fun W => bin_lssI (r := false) _ _ z2 W) ?_
            refine g_pick (b := false) (R := Is (.bool false)) (by rfl) (by exact fun _ _ _ h => h) (stb_is _) (by exact fun _ _ _ h => h) ?_
            refine g_move (R := Is (.bool false)) (by rfl) (stb_is _) (by exact fun _ _ _ h => h) ?_
            refine g_move (R := Is (.slice (some ⟨g, 0, none⟩) 6 cap)) (by rfl) (stb_is _) (by exact fun _ _ _ h => h) ?_
            refine g_ixi (b := g) (f := 0) (len := 6) (c := cap) (i := 2) (by rfl) (by exact fun _ _ _ h => h) (by exact fun _ _ _ h => h) (by decide) ?_
            refine g_cellw (g := g) (k := 0 + 2 * 1) (v := .int .i64 (d : Nat)) (R := Is (.int .i64 (d : Nat))) (by rfl) (by exact fun _ _ _ h => h) (HC2.out) isAgg_int (stb_is _) (by exact fun _ _ => rfl) ?_
            refine g_move (R := Is (.slice (some ⟨g, 0, none⟩) 6 cap)) (by rfl) (stb_is _) (by exact fun _ _ _ h => h) ?_
            refine g_ixi (b := g) (f := 0) (len := 6) (c := cap) (i := 0) (by rfl) (by exact fun _ _ _ h => h) (by exact fun _ _ _ h => h) (by decide) ?_
            refine g_cellw (g := g) (k := 0 + 0 * 1) (v := .int .i64 (y : Nat)) (R := Is (.int .i64 (y : Nat))) (by rfl) (by exact fun _ _ _ h => h) (HC0.out) isAgg_int (stb_is _) (by exact fun _ _ => rfl) ?_
            refine g_move (R := Is (.slice (some ⟨g, 0, none⟩) 6 cap)) (by rfl) (stb_is _) (by exact fun _ _ _ h => h) ?_
            refine g_ixi (b := g) (f := 0) (len := 6) (c := cap) (i := 1) (by rfl) (by exact fun _ _ _ h => h) (by exact fun _ _ _ h => h) (by decide) ?_
            refine g_cellw (g := g) (k := 0 + 1 * 1) (v := .int .i64 (m : Nat)) (R := Is (.int .i64 (m : Nat))) (by rfl) (by exact fun _ _ _ h => h) (HC1.out) isAgg_int (stb_is _) (by exact fun _ _ => rfl) ?_
            refine g_callK (f := 57) (xs := [.tmp 86, .tmp 89]) [.int .i64 (y : Nat), .int .i64 (m : Nat)] (R := Is (.int .i64 (LM : Nat))) (by rfl) Tryz.func57 (by kernel_rfl) rfl (stb_is _) ⟨(by exact fun _ _ _ h => h), (by exact fun _ _ _ h => h), trivial⟩ (HDR.out) ?_
            refine g_bin (v := .int .i64 (d : Nat)) (u := .int .i64 (LM : Nat)) (r := .bool false) (by rfl) (by exact fun _ _ _ h => h) (by exact fun _ _ _ h => h) (by rfl) (fun W => bin_gtrI (r := false) _ _ z3 W) ?_
            refine g_pick (b := false) (R := Is (.bool false)) (by rfl) (by exact fun _ _ _ h => h) (stb_is _) (by exact fun _ _ _ h => h) ?_
            refine g_move (R := Is (.bool false)) (by rfl) (stb_is _) (by exact fun _ _ _ h => h) ?_
            refine g_move (R := Is (.slice (some ⟨g, 0, none⟩) 6 cap)) (by rfl) (stb_is _) (by exact fun _ _ _ h => h) ?_
            refine g_ixi (b := g) (f := 0) (len := 6) (c := cap) (i := 3) (by rfl) (by exact fun _ _ _ h => h) (by exact fun _ _ _ h => h) (by decide) ?_
            refine g_cellw (g := g) (k := 0 + 3 * 1) (v := .int .i64 (h : Nat)) (R := Is (.int .i64 (h : Nat))) (by rfl) (by exact fun _ _ _ h => h) (HC3.out) isAgg_int (stb_is _) (by exact fun _ _ => rfl) ?_
            refine g_bin (v := .int .i64 (h : Nat)) (u := .int .i64 23) (r := .bool false) (by rfl) (by exact fun _ _ _ h => h) (by exact fun _ _ _ h => h) (by rfl) (fun W => bin_gtrI (r := false) _ _ z4 W) ?_
            refine g_pick (b := false) (R := Is (.bool false)) (by rfl) (by exact fun _ _ _ h => h) (stb_is _) (by exact fun _ _ _ h => h) ?_
            refine g_move (R := Is (.bool false)) (by rfl) (stb_is _) (by exact fun _ _ _ h => h) ?_
            refine g_move (R := Is (.slice (some ⟨g, 0, none⟩) 6 cap)) (by rfl) (stb_is _) (by exact fun _ _ _ h => h) ?_
            refine g_ixi (b := g) (f := 0) (len := 6) (c := cap) (i := 4) (by rfl) (by exact fun _ _ _ h => h) (by exact fun _ _ _ h => h) (by decide) ?_
            refine g_cellw (g := g) (k := 0 + 4 * 1) (v := .int .i64 (ii : Nat)) (R := Is (.int .i64 (ii : Nat))) (by rfl) (by exact fun _ _ _ h => h) (HC4.out) isAgg_int (stb_is _) (by exact fun _ _ => rfl) ?_
            refine g_bin (v := .int .i64 (ii : Nat)) (u := .int .i64 59) (r := .bool false) (by rfl) (by exact fun _ _ _ h => h) (by exact fun _ _ _ h => h) (by rfl) (fun W => bin_gtrI (r := false) _ _ z5 W) ?_
            refine g_pick (b := false) (R := Is (.bool false)) (by rfl) (by exact fun _ _ _ h => h) (stb_is _) (by exact fun _ _ _ h => h) ?_
            refine g_move (R := Is (.bool false)) (by rfl) (stb_is _) (by exact fun _ _ _ h => h) ?_
            refine g_move (R := Is (.slice (some ⟨g, 0, none⟩) 6 cap)) (by rfl) (stb_is _) (by exact fun _ _ _ h => h) ?_
            refine g_ixi (b := g) (f := 0) (len := 6) (c := cap) (i := 5) (by rfl) (by exact fun _ _ _ h => h) (by exact fun _ _ _ h => h) (by decide) ?_
            refine g_cellw (g := g) (k := 0 + 5 * 1) (v := .int .i64 (s : Nat)) (R := Is (.int .i64 (s : Nat))) (by rfl) (by exact fun _ _ _ h => h) (HC5.out) isAgg_int (stb_is _) (by exact fun _ _ => rfl) ?_
            refine g_bin (v := .int .i64 (s : Nat)) (u := .int .i64 59) (r := .bool true) (by rfl) (by exact fun _ _ _ h => h) (by exact fun _ _ _ h => h) (by rfl) (fun W => bin_gtrI (r := true) _ _ z6 W) ?_
            intro w13 hR13 hb13 v64 h64 v65 h65 v66 h66 v67 h67 v68 h68 v69 h69 v70 h70 v71 h71 v72 h72 v73 h73 v74 h74 v75 h75 v76 h76 v77 h77 v78 h78 v79 h79 v80 h80 v81 h81 v82 h82 v83 h83 v84 h84 v85 h85 v86 h86 v87 h87 v88 h88 v89 h89 v90 h90 v91 h91 v92 h92 v93 h93 v94 h94 v95 h95 v96 h96 v97 h97 v98 h98 v99 h99 v100 h100 v101 h101 v102 h102 v103 h103 v104 h104 v105 h105 v106 h106 v107 h107 v108 h108 v109 h109
            simp only [softEnd, Act.put, List.setIfInBounds_toArray, List.set_cons_succ, List.set_cons_zero, List.drop_succ_cons, List.drop_zero]
            obtain rfl : v105 = .bool false := h105
            obtain rfl : v109 = .bool true := h109
            clear h64 h65 h66 h67 h68 h69 h70 h71 h72 h73 h74 h75 h76 h77 h78 h79 h80 h81 h82 h83 h84 h85 h86 h87 h88 h89 h90 h91 h92 h93 h94 h95 h96 h97 h98 h99 h100 h101 h102 h103 h104 h106 h107 h108
            go_wp2_with fail
            go_ret2
            rw [HR2.out]
            exact ⟨rfl, hR13.below⟩
          have z6 : decide ((59 : Int) < (s : Int)) = false := decide_eq_false (by omega)
          have r6 := q
          clear q
          refine wp_region_softG 46 (by kernel_rfl) (by kernel_rfl) (by rfl) hRs ?_
          refine g_move (R := Is (.slice (some ⟨g, 0, none⟩) 6 cap)) (by rfl) (stb_is _) (by exact fun _ _ _ h => h) ?_
          refine g_ixi (b := g) (f := 0) (len := 6) (c := cap) (i := 1) (by rfl) (by exact fun _ _ _ h => h) (by exact fun _ _ _ h => h) (by decide) ?_
          refine g_cellw (g := g) (k := 0 + 1 * 1) (v := .int .i64 (m : Nat)) (R := Is (.int .i64 (m : Nat))) (by rfl) (by exact fun _ _ _ h => h) (HC1.out) isAgg_int (stb_is _) (by exact fun _ _ => rfl) ?_
          refine g_bin (v := .int .i64 (m : Nat)) (u := .int .i64 1) (r := .bool false) (by rfl) (by exact fun _ _ _ h => h) (by exact fun _ _ _ h => h) (by rfl) (fun W => bin_lssI (r := false) _ _ z0 W) ?_
          refine g_move (R := Is (.bool false)) (by rfl) (stb_is _) (by exact fun _ _ _ h => h) ?_
          refine g_move (R := Is (.slice (some ⟨g, 0, none⟩) 6 cap)) (by rfl) (stb_is _) (by exact fun _ _ _ h => h) ?_
          refine g_ixi (b := g) (f := 0) (len := 6) (c := cap) (i := 1) (by rfl) (by exact fun _ _ _ h => h) (by exact fun _ _ _ h => h) (by decide) ?_
          refine g_cellw (g := g) (k := 0 + 1 * 1) (v := .int .i64 (m : Nat)) (R := Is (.int .i64 (m : Nat))) (by rfl) (by exact fun _ _ _ h => h) (HC1.out) isAgg_int (stb_is _) (by exact fun _ _ => rfl) ?_
          refine g_bin (v := .int .i64 (m : Nat)) (u := .int .i64 12) (r := .bool false) (by rfl) (by exact fun _ _ _ h => h) (by exact fun _ _ _ h => h) (by rfl) (fun W => bin_gtrI (r := false) _ _ z1 W) ?_
          refine g_pick (b := false) (R := Is (.bool false)) (by rfl) (by exact fun _ _ _ h => h) (stb_is _) (by exact fun _ _ _ h => h) ?_
          refine g_move (R := Is (.bool false)) (by rfl) (stb_is _) (by exact fun _ _ _ h => h) ?_
          refine g_move (R := Is (.slice (some ⟨g, 0, none⟩) 6 cap)) (by rfl) (stb_is _) (by exact fun _ _ _ h => h) ?_
          refine g_ixi (b := g) (f := 0) (len := 6) (c := cap) (i := 2) (by rfl) (by exact fun _ _ _ h => h) (by exact fun _ _ _ h => h) (by decide) ?_
          refine g_cellw (g := g) (k := 0 + 2 * 1) (v := .int .i64 (d : Nat)) (R := Is (.int .i64 (d : Nat))) (by rfl) (by exact fun _ _ _ h => h) (HC2.out) isAgg_int (stb_is _) (by exact fun _ _ => rfl) ?_
          refine g_bin (v := .int .i64 (d : Nat)) (u := .int .i64 1) (r := .bool false) (by rfl) (by exact fun _ _ _ h => h) (by exact fun _ _ _ h => h) (by rfl) (fun W => bin_lssI (r := false) _ _ z2 W) ?_
          refine g_pick (b := false) (R := Is (.bool false)) (by rfl) (by exact fun _ _ _ h => h) (stb_is _) (by exact fun _ _ _ h => h) ?_
          refine g_move (R := Is (.bool false)) (by rfl) (stb_is _) (by exact fun _ _ _ h => h) ?_
          refine g_move (R := Is (.slice (some ⟨g, 0, none⟩) 6 cap)) (by rfl) (stb_is _) (by exact fun _ _ _ h => h) ?_
          refine g_ixi (b := g) (f := 0) (len := 6) (c := cap) (i := 2) (by rfl) (by exact fun _ _ _ h => h) (by exact fun _ _ _ h => h) (by decide) ?_
          refine g_cellw (g := g) (k := 0 + 2 * 1) (v := .int .i64 (d : Nat)) (R := Is (.int .i64 (d : Nat))) (by rfl) (by exact fun _ _ _ h => h) (HC2.out) isAgg_int (stb_is _) (by exact fun _ _ => rfl) ?_
          refine g_move (R := Is (.slice (some ⟨g, 0, none⟩) 6 cap)) (by rfl) (stb_is _) (by exact fun _ _ _ h => h) ?_
          refine g_ixi (b := g) (f := 0) (len := 6) (c := cap) (i := 0) (by rfl) (by exact fun _ _ _ h => h) (by exact fun _ _ _ h => h) (by decide) ?_
          refine g_cellw (g := g) (k := 0 + 0 * 1) (v := .int .i64 (y : Nat)) (R := Is (.int .i64 (y : Nat))) (by rfl) (by exact fun _ _ _ h => h) (HC0.out) isAgg_int (stb_is _) (by exact fun _ _ => rfl) ?_
          refine g_move (R := Is (.slice (some ⟨g, 0, none⟩) 6 cap)) (by rfl) (stb_is _) (by exact fun _ _ _ h => h) ?_
          refine g_ixi (b := g) (f := 0) (len := 6) (c := cap) (i := 1) (by rfl) (by exact fun _ _ _ h => h) (by exact fun _ _ _ h => h) (by decide) ?_
          refine g_cellw (g := g) (k := 0 + 1 * 1) (v := .int .i64 (m : Nat)) (R := Is (.int .i64 (m : Nat))) (by rfl) (by exact fun _ _ _ h => h) (HC1.out) isAgg_int (stb_is _) (by exact fun _ _ => rfl) ?_
          refine g_callK (f := 57) (xs := [.tmp 86, .tmp 89]) [.int .i64 (y : Nat), .int .i64 (m : Nat)] (R := Is (.int .i64 (LM : Nat))) (by rfl) Tryz.func57 (by kernel_rfl) rfl (stb_is _) ⟨(by exact fun _ _ _ h => h), (by exact fun _ _ _ h => h), trivial⟩ (HDR.out) ?_
          refine g_bin (v := .int .i64 (d : Nat)) (u := .int .i64 (LM : Nat)) (r := .bool false) (by rfl) (by exact fun _ _ _ h => h) (by exact fun _ _ _ h => h) (by rfl) (fun W => bin_gtrI (r := false) _ _ z3 W) ?_
          refine g_pick (b := false) (R := Is (.bool false)) (by rfl) (by exact fun _ _ _ h => h) (stb_is _) (by exact fun _ _ _ h => h) ?_
          refine g_move (R := Is (.bool false)) (by rfl) (stb_is _) (by exact fun _ _ _ h => h) ?_
          refine g_move (R := Is (.slice (some ⟨g, 0, none⟩) 6 cap)) (by rfl) (stb_is _) (by exact fun _ _ _ h => h) ?_
          refine g_ixi (b := g) (f := 0) (len := 6) (c := cap) (i := 3) (by rfl) (by exact fun _ _ _ h => h) (by exact fun _ _ _ h => h) (by decide) ?_
          refine g_cellw (g := g) (k := 0 + 3 * 1) (v := .int .i64 (h : Nat)) (R := Is (.int .i64 (h : Nat))) (by rfl) (by exact fun _ _ _ h => h) (HC3.out) isAgg_int (stb_is _) (by exact fun _ _ => rfl) ?_
          refine g_bin (v := .int .i64 (h : Nat)) (u := .int .i64 23) (r := .bool false) (by rfl) (by exact fun _ _ _ h => h) (by exact fun _ _ _ h => h) (by rfl) (fun W => bin_gtrI (r := false) _ _ z4 W) ?_
          refine g_pick (b := false) (R := Is (.bool false)) (by rfl) (by exact fun _ _ _ h => h) (stb_is _) (by exact fun _ _ _ h => h) ?_
          refine g_move (R := Is (.bool false)) (by rfl) (stb_is _) (by exact fun _ _ _ h => h) ?_
          refine g_move (R := Is (.slice (some ⟨g, 0, none⟩) 6 cap)) (by rfl) (stb_is _) (by exact fun _ _ _ h => h) ?_
          refine g_ixi (b := g) (f := 0) (len := 6) (c := cap) (i := 4) (by rfl) (by exact fun _ _ _ h => h) (by exact fun _ _ _ h => h) (by decide) ?_
          refine g_cellw (g := g) (k := 0 + 4 * 1) (v := .int .i64 (ii : Nat)) (R := Is (.int .i64 (ii : Nat))) (by rfl) (by exact fun _ _ _ h => h) (HC4.out) isAgg_int (stb_is _) (by exact fun _ _ => rfl) ?_
          refine g_bin (v := .int .i64 (ii : Nat)) (u := .int .i64 59) (r := .bool false) (by rfl) (by exact fun _ _ _ h => h) (by exact fun _ _ _ h => h) (by rfl) (fun W => bin_gtrI (r := false) _ _ z5 W) ?_
          refine g_pick (b := false) (R := Is (.bool false)) (by rfl) (by exact fun _ _ _ h => h) (stb_is _) (by exact fun _ _ _ h => h) ?_
          refine g_move (R := Is (.bool false)) (by rfl) (stb_is _) (by exact fun _ _ _ h => h) ?_
          refine g_move (R := Is (.slice (some ⟨g, 0, none⟩) 6 cap)) (by rfl) (stb_is _) (by exact fun _ _ _ h => h) ?_
          refine g_ixi (b := g) (f := 0) (len := 6) (c := cap) (i := 5) (by rfl) (by exact fun _ _ _ h => h) (by exact fun _ _ _ h => h) (by decide) ?_
          refine g_cellw (g := g) (k := 0 + 5 * 1) (v := .int .i64 (s : Nat)) (R := Is (.int .i64 (s : Nat))) (by rfl) (by exact fun _ _ _ h => h) (HC5.out) isAgg_int (stb_is _) (by exact fun _ _ => rfl) ?_
          refine g_bin (v := .int .i64 (s : Nat)) (u := .int .i64 59) (r := .bool false) (by rfl) (by exact fun _ _ _ h => h) (by exact fun _ _ _ h => h) (by rfl) (fun W => bin_gtrI (r := false) _ _ z6 W) ?_
          intro w13 hR13 hb13 v64 h64 v65 h65 v66 h66 v67 h67 v68 h68 v69 h69 v70 h70 v71 h71 v72 h72 v73 h73 v74 h74 v75 h75 v76 h76 v77 h77 v78 h78 v79 h79 v80 h80 v81 h81 v82 h82 v83 h83 v84 h84 v85 h85 v86 h86 v87 h87 v88 h88 v89 h89 v90 h90 v91 h91 v92 h92 v93 h93 v94 h94 v95 h95 v96 h96 v97 h97 v98 h98 v99 h99 v100 h100 v101 h101 v102 h102 v103 h103 v104 h104 v105 h105 v106 h106 v107 h107 v108 h108 v109 h109
          simp only [softEnd, Act.put, List.setIfInBounds_toArray, List.set_cons_succ, List.set_cons_zero, List.drop_succ_cons, List.drop_zero]
          obtain rfl : v105 = .bool false := h105
          obtain rfl : v109 = .bool false := h109
          clear h64 h65 h66 h67 h68 h69 h70 h71 h72 h73 h74 h75 h76 h77 h78 h79 h80 h81 h82 h83 h84 h85 h86 h87 h88 h89 h90 h91 h92 h93 h94 h95 h96 h97 h98 h99 h100 h101 h102 h103 h104 h106 h107 h108
          have HYE : Hid (∀ u, Calls Tryz.prog 55 #[.int .i64 (y : Nat)] u fun e w' => e = .returned (.int .i64 (yearsS y : Nat)) ∧ u = w') := Lib.hid fun u => (Years_any y u (by omega)).mono fun _ _ hh => ⟨hh.1, hh.2.symm⟩
          have HY7 : Hid (∀ u, Calls Tryz.prog 55 #[.int .i64 1970] u fun e w' => e = .returned (.int .i64 719528) ∧ u = w') := Lib.hid fun u => by
            have h70 : yearsS 1970 = 719528 := day_1970
            have := Years_any 1970 u (by decide)
            rw [h70] at this
            exact this.mono fun _ _ hh => ⟨hh.1, hh.2.symm⟩
          have HDK : Hid (∀ (k : Nat) u, 1 ≤ k → k < m → Calls Tryz.prog 57 #[.int .i64 (y : Nat), .int .i64 (k : Nat)] u fun e w' => e = .returned (.int .i64 (lenM y k : Nat)) ∧ Below u.heap.size u w') := Lib.hid fun k u h1 h2 => days_any y k u (by omega) h1 (by omega)
          have HML : Hid (∀ k, 1 ≤ k → k ≤ m → monthsS y k ≤ 31 * k) := Lib.hid fun k h1 _ => months_le y k h1
          have hYL := years_le (y := y)
          obtain ⟨YY, hYY⟩ : ∃ YY, YY = yearsS y := ⟨_, rfl⟩
          have HR2 : Hid (longS L = some (86400 * (((YY + monthsS y m : Nat) : Int) + d - 1 - 719528) + 3600 * h + 60 * ii + s)) := Lib.hid (by
            rw [HR.out]; unfold timeS; rw [if_neg (by rw [← HLM.out]; omega), day_1970, hYY]; rfl)
          rw [← hYY] at HYE hYL
          have HB13 := Lib.hid hb13
          have HBW : Hid (Below w.heap.size w w13) := Lib.hid hR13.below
          have hm1 : 1 ≤ m := by omega
          have hm2 : m ≤ 12 := by omega
          have HCS : Hid (∀ u, Below w13.heap.size w13 u → u.cell? ⟨g, 0, none⟩ = some (.int .i64 (y : Nat)) ∧ u.cell? ⟨g, 1, none⟩ = some (.int .i64 (m : Nat)) ∧ u.cell? ⟨g, 2, none⟩ = some (.int .i64 (d : Nat)) ∧ u.cell? ⟨g, 3, none⟩ = some (.int .i64 (h : Nat)) ∧ u.cell? ⟨g, 4, none⟩ = some (.int .i64 (ii : Nat)) ∧ u.cell? ⟨g, 5, none⟩ = some (.int .i64 (s : Nat))) := Lib.hid fun u hu => by
            have hb := HB13.out.trans (hu.mono HB13.out.size)
            exact ⟨HC0.out u hb, HC1.out u hb, HC2.out u hb, HC3.out u hb, HC4.out u hb, HC5.out u hb⟩
          clear c0 c1 c2 c3 c4 c5 HC0 HC1 HC2 HC3 HC4 HC5 z0 z1 z2 z3 z4 z5 z6 hYY HR hb13 hRs HDR HDA
          obtain ⟨c0, c1, c2, c3, c4, c5⟩ := HCS.out w13 (Below.refl _ _)
          go_upto_region 23 with (first
            | (go_at_call_of 55 (Value.int IntKind.i64 1970); refine (HY7.out _).mono ?_; rintro e wn ⟨rfl, rfl⟩)
            | (go_at_call 55; refine (HYE.out _).mono ?_; rintro e wn ⟨rfl, rfl⟩))
          clear HYE HY7 c0 c1 c2 c3 c4 c5
          go_loopg [9, 10] (m - 1) (fun gg s9 s10 wx => ∃ k : Nat, 1 ≤ k ∧ k + gg = m ∧ s10 = .int .i64 k ∧ s9 = .int .i64 (((YY + monthsS y k : Nat) : Int) - 719528) ∧ Aside (Below w13.heap.size w13 wx))
          case atStart => exact ⟨1, Nat.le_refl _, by omega, rfl, by simp [monthsS], Below.refl _ _⟩
          case round =>
            obtain ⟨k, hk1, hkm, rfl, rfl, HBX⟩ := hrel
            obtain ⟨c0, c1, c2, c3, c4, c5⟩ := HCS.out _ HBX.out
            have hMK := HML.out k hk1 (by omega)
            cases gk with
            | succ gk =>
              have hkz : (k : Int) < (m : Int) := by omega
              have hDK := HDK.out k wr hk1 (by omega)
              obtain ⟨q, rfl⟩ : ∃ q, k = q + 1 := ⟨k - 1, by omega⟩
              have hst : monthsS y (q + 1 + 1) = monthsS y (q + 1) + lenM y (q + 1) := rfl
              have hle : lenM y (q + 1) ≤ 31 := by
                have := HML.out (q + 1 + 1) (by omega) (by omega)
                unfold lenM
                split
                · omega
                · split
                  · split <;> omega
                  · omega
              generalize lenM y (q + 1) = LK at *
              have HST := Lib.hid hst
              clear hst
              generalize monthsS y (q + 1) = MK at *
              have HDK2 := Lib.hid hDK
              clear hDK
              go_wp2_with (go_at_call 57; refine (HDK2.out).mono ?_; rintro e wn ⟨rfl, hbn⟩)
              go_roundg gk
              case measure => omega
              case rel => exact ⟨q + 1 + 1, by omega, by omega, by go_num, by rw [HST.out]; go_num, HBX.out.trans (hbn.mono HBX.out.size)⟩
            | zero =>
              obtain rfl : k = m := by omega
              have hkz : ¬ (k : Int) < (k : Int) := by omega
              have HBF := Lib.hid (HBW.out.trans (HBX.out.mono HBW.out.size))
              generalize monthsS y k = MK at *
              go_upto_region 26 with fail
              have HE : Hid ((86400 * (((YY + MK : Nat) : Int) + d - 1 - 719528) + 3600 * h + 60 * ii + s : Int) = ((((YY : Int) + MK - 719528 + d - 1) * 24 + h) * 3600 + ii * 60 + s)) := Lib.hid (by omega)
              go_quiet (fail)
              go_wp2_with fail
              go_ret2
              rw [HR2.out, HE.out]
              exact ⟨rfl, below_drawn HBF.out _⟩
set_option maxRecDepth 100000 in
set_option maxHeartbeats 8000000 in
theorem rmom_23b (s0 : Bs) (w : World) (h13 : s0.length = 13) (h0 : 0 ≤ pcS s0 0 2) (hq : ¬ 50 ≤ pcS s0 0 2) : Calls Tryz.prog 52 #[.int .i64 23, .string (bs s0)] w fun e w' => e = .returned (momV (longS (50 :: 48 :: s0))) ∧ Below w.heap.size w w' := by
  have hSB := SB_eq
  have _hz := h0
  obtain ⟨L, hL⟩ : ∃ L, L = 50 :: 48 :: s0 := ⟨_, rfl⟩
  have hcat : (⟨#[50, 48]⟩ : ByteArray) ++ bs s0 = bs L := by rw [hL]; exact (bs_app2 [50, 48] s0).symm
  rw [← hL]
  have zs0 := bs_size s0
  rw [h13] at zs0
  have HN0 : Hid (∀ u, Calls Tryz.prog 48 #[.string ((bs s0).extract 0 2)] u fun e w' => e = .returned (.int .i64 (pcS s0 0 2)) ∧ u = w') := Lib.hid fun u => by
    have := number_low ((s0.take 2).drop 0) u (by simp; omega)
    rw [← bs_cut] at this
    exact this.mono fun _ _ hh => ⟨hh.1, hh.2.symm⟩
  generalize pcS s0 0 2 = NB at *
  have hn0 : ¬ NB < 0 := by omega
  have zs := bs_size L
  clear hL h13
  go_enter Tryz.func52, Tryz.ntmps52
  go_upto_region 7 with (go_at_call 48; refine (HN0.out _).mono ?_; rintro e w1 ⟨rfl, rfl⟩)
  clear hcat HN0 zs0 hn0 hq h0
  by_cases hl : L.length = 15
  case neg =>
    have q1 : ((L.length : Int) != 15) = true := by simp; omega
    have HR : Hid (longS L = none) := Lib.hid (by unfold longS; rw [if_pos (Or.inl hl)])
    clear hl
    go_wp2_with fail
    go_ret2
    rw [HR.out]
    exact ⟨rfl, Below.refl _ _⟩
  obtain ⟨x, hx⟩ : ∃ x, L[14]? = some x := ⟨L[14], List.getElem?_eq_getElem (by omega)⟩
  have hg := bs_get L 14 x hx
  rw [hl] at zs
  by_cases hxz : x = 90
  case neg =>
    have q1 : ((x.toNat : Int) != 90) = true := by
      have : x.toNat ≠ 90 := fun e => hxz (by rw [← u8_back x, e]; rfl)
      simp; omega
    have HR : Hid (longS L = none) := Lib.hid (by unfold longS; rw [if_pos (Or.inr (Or.inl (by rw [hx]; simpa using hxz)))])
    clear hx hxz
    go_wp2_with fail
    go_ret2
    rw [HR.out]
    exact ⟨rfl, Below.refl _ _⟩
  subst hxz
  have HNU : Hid (∀ a b u, Calls Tryz.prog 48 #[.string ((bs L).extract a b)] u fun e w' => e = .returned (.int .i64 (pcS L a b)) ∧ u = w') := Lib.hid fun a b u => by
    have := number_low ((L.take b).drop a) u (by simp; omega)
    rw [← bs_cut] at this
    exact this.mono fun _ _ hh => ⟨hh.1, hh.2.symm⟩
  have HX := Lib.hid (And.intro hl hx)
  clear hx hl
  go_upto_region 11 with (go_at_call 48; refine (HNU.out _ _ _).mono ?_; rintro e w1 ⟨rfl, rfl⟩)
  have hO0 := own_newZ [pcS L 0 4] #[.int .i64 (pcS L 0 4)] rfl w (by simp) (Nat.le_refl _)
  have hb0 := b_alloc w (.cells #[.int .i64 (pcS L 0 4)] 3)
  generalize w.alloc (.cells #[.int .i64 (pcS L 0 4)] 3) = w1 at *
  have HO0 := Lib.hid hO0
  have HB0 := Lib.hid hb0
  clear hO0 hb0
  go_loopg [6, 7] 5 (fun gg s6 s7 wr => ∃ (j : Nat) (V : Value), j + gg = 5 ∧ s6 = V ∧ s7 = .int .i64 ((4 + 2 * j : Nat) : Int) ∧ Aside (OwnZ w.heap.size wr V ((sixS L).take (j + 1))) ∧ Aside (Below w.heap.size w wr))
  case atStart => exact ⟨0, _, rfl, rfl, rfl, HO0.out, HB0.out⟩
  case round =>
    obtain ⟨j, V, hj, rfl, rfl, HO, HB⟩ := hrel
    clear HO0 HB0
    cases gk with
    | succ gk =>
      have hjl : j < 5 := by omega
      have hjz : ((4 + 2 * j : Nat) : Int) < 14 := by omega
      have hl6 : ((sixS L).take (j + 1)).length + 1 ≤ 3000000 := by
        have : ((sixS L).take (j + 1)).length ≤ (sixS L).length := by rw [List.length_take]; exact Nat.min_le_right _ _
        have h6 : (sixS L).length = 6 := rfl
        omega
      go_wp2_with (first
        | (go_at_call 48; refine (HNU.out _ _ _).mono ?_; rintro e w2 ⟨rfl, rfl⟩)
        | (refine wp_snocZ (w := w) (B := w.heap.size) rfl _ _ (by rfl) (pcS L (4 + 2 * j) (4 + 2 * j + 2)) (by rfl) (by rfl) HO.out (Nat.le_refl _) HB.out hl6 ?_; intro v3 w3 hO3 hb3))
      go_roundg gk
      case measure => omega
      case rel => exact ⟨j + 1, _, by omega, rfl, by go_num, by rw [← six_take L j hjl]; exact hO3, hb3⟩
    | zero =>
      obtain rfl : j = 5 := by omega
      have hO := HO.out
      have h6 : (sixS L).take (5 + 1) = sixS L := rfl
      rw [h6] at hO
      obtain ⟨g, cap, rfl, hcap, hgl, hcs⟩ := OwnZ.cells hO (by show 0 < 6; decide)
      have HCS := Lib.hid hcs
      clear hcs hO h6 HO HNU
      go_upto_region 15 with fail
      go_loopg [8] 6 (fun gg s8 wx => ∃ i : Nat, i + gg = 6 ∧ s8 = .int .i64 i ∧ Aside (∀ (j : Nat) x, j < i → (sixS L)[j]? = some x → 0 ≤ x) ∧ wx = wr)
      case atStart => exact ⟨0, rfl, rfl, fun j x h => absurd h (Nat.not_lt_zero _), rfl⟩
      case round =>
        obtain ⟨i, hi, rfl, HP, rfl⟩ := hrel
        cases gk with
        | succ gk =>
          have hil : i < 6 := by omega
          have hiz : (i : Int) < 6 := by omega
          obtain ⟨z, hz⟩ : ∃ z, (sixS L)[i]? = some z := ⟨(sixS L)[i]'(by show i < 6; exact hil), List.getElem?_eq_getElem _⟩
          have hci := HCS.out i z hz
          have HZ := Lib.hid hz
          clear hz
          by_cases hneg : z < 0
          · have HR : Hid (longS L = none) := Lib.hid (long_neg HZ.out hneg)
            go_wp2_with fail
            go_ret2
            rw [HR.out]
            exact ⟨rfl, HB.out⟩
          · have HP2 : Hid (∀ (j : Nat) x, j < i + 1 → (sixS L)[j]? = some x → 0 ≤ x) := Lib.hid fun j x hj hx => by
              rcases Nat.lt_or_ge j i with h | h
              · exact HP.out j x h hx
              · obtain rfl : j = i := by omega
                rw [HZ.out] at hx
                cases hx
                omega
            clear HP
            go_wp2_with fail
            go_roundg gk
            case measure => omega
            case rel => exact ⟨i + 1, by omega, by go_num, HP2.out, rfl⟩
        | zero =>
          have hiz : ¬ (i : Int) < 6 := by omega
          obtain ⟨y, m, d, h, ii, s, h6, by0, bm, bd, bh, bi, bz, hls⟩ := long_six HX.out.1 HX.out.2 (fun j x hx => HP.out j x (by have := (List.getElem?_eq_some_iff.1 hx).1; have h6 : (sixS L).length = 6 := rfl; omega) hx)
          have c0 := HCS.out 0 (y : Int) (by rw [h6]; rfl)
          have c1 := HCS.out 1 (m : Int) (by rw [h6]; rfl)
          have c2 := HCS.out 2 (d : Int) (by rw [h6]; rfl)
          have c3 := HCS.out 3 (h : Int) (by rw [h6]; rfl)
          have c4 := HCS.out 4 (ii : Int) (by rw [h6]; rfl)
          have c5 := HCS.out 5 (s : Int) (by rw [h6]; rfl)
          have HR := Lib.hid hls
          have hs6 : (sixS L).length = 6 := rfl
          clear HP HCS h6 hls
          have HDA : Hid (m < 1 ∨ 12 < m ∨ ∀ u, Calls Tryz.prog 57 #[.int .i64 (y : Nat), .int .i64 (m : Nat)] u fun e w' => e = .returned (.int .i64 (lenM y m : Nat)) ∧ Below u.heap.size u w') := Lib.hid (by
            by_cases h1 : m < 1
            · exact Or.inl h1
            · by_cases h2 : 12 < m
              · exact Or.inr (Or.inl h2)
              · exact Or.inr (Or.inr fun u => days_any y m u (by omega) (by omega) (by omega)))
          obtain ⟨LM, hLM⟩ : ∃ LM, LM = lenM y m := ⟨_, rfl⟩
          have HLM := Lib.hid hLM
          rw [← hLM] at HDA
          clear hLM
          go_upto_region 19 with fail
          by_cases q : m < 1
          · have HR2 : Hid (longS L = none) := Lib.hid (by rw [HR.out]; unfold timeS; rw [if_pos (by rw [← HLM.out]; exact Or.inl q)])
            have zz0 : (m : Int) < (1 : Int) := by omega
            go_quiet (fail)
            go_wp2_with fail
            go_ret2
            rw [HR2.out]
            exact ⟨rfl, below_drawn HB.out _⟩
          have n0 : ¬ (m : Int) < (1 : Int) := by omega
          have r0 := q
          clear q
          by_cases q : 12 < m
          · have HR2 : Hid (longS L = none) := Lib.hid (by rw [HR.out]; unfold timeS; rw [if_pos (by rw [← HLM.out]; exact Or.inr (Or.inl q))])
            have zz1 : (12 : Int) < (m : Int) := by omega
            go_quiet (fail)
            go_wp2_with fail
            go_ret2
            rw [HR2.out]
            exact ⟨rfl, below_drawn HB.out _⟩
          have n1 : ¬ (12 : Int) < (m : Int) := by omega
          have r1 := q
          clear q
          by_cases q : d < 1
          · have HR2 : Hid (longS L = none) := Lib.hid (by rw [HR.out]; unfold timeS; rw [if_pos (by rw [← HLM.out]; exact Or.inr (Or.inr (Or.inl q)))])
            have zz2 : (d : Int) < (1 : Int) := by omega
            go_quiet (fail)
            go_wp2_with fail
            go_ret2
            rw [HR2.out]
            exact ⟨rfl, below_drawn HB.out _⟩
          have n2 : ¬ (d : Int) < (1 : Int) := by omega
          have r2 := q
          clear q
          have HDR : Hid (∀ u, Below wr.heap.size wr u → Calls Tryz.prog 57 #[.int .i64 (y : Nat), .int .i64 (m : Nat)] u (RW (Is (.int .i64 (LM : Nat))) u)) := Lib.hid fun u _ => by
            rcases HDA.out with h1 | h1 | h1
            · exact absurd h1 r0
            · exact absurd h1 r1
            · exact (h1 u).mono fun e w' hh => rw_below hh
          have z0 : decide ((m : Int) < 1) = false := decide_eq_false (by omega)
          have z1 : decide ((12 : Int) < m) = false := decide_eq_false (by omega)
          have z2 : decide ((d : Int) < 1) = false := decide_eq_false (by omega)
          have hRs : Rws w.heap.size w wr [] := ⟨HB.out, HB.out.size, fun _ h => absurd h List.not_mem_nil, List.Pairwise.nil⟩
          have HC0 : Hid (∀ u : World, Below wr.heap.size wr u → u.cell? ⟨g, 0 + 0 * 1, none⟩ = some (.int .i64 (y : Nat))) := Lib.hid fun u hu => (hu.cell (p := ⟨g, 0, none⟩) hgl).trans c0
          have HC1 : Hid (∀ u : World, Below wr.heap.size wr u → u.cell? ⟨g, 0 + 1 * 1, none⟩ = some (.int .i64 (m : Nat))) := Lib.hid fun u hu => (hu.cell (p := ⟨g, 1, none⟩) hgl).trans c1
          have HC2 : Hid (∀ u : World, Below wr.heap.size wr u → u.cell? ⟨g, 0 + 2 * 1, none⟩ = some (.int .i64 (d : Nat))) := Lib.hid fun u hu => (hu.cell (p := ⟨g, 2, none⟩) hgl).trans c2
          have HC3 : Hid (∀ u : World, Below wr.heap.size wr u → u.cell? ⟨g, 0 + 3 * 1, none⟩ = some (.int .i64 (h : Nat))) := Lib.hid fun u hu => (hu.cell (p := ⟨g, 3, none⟩) hgl).trans c3
          have HC4 : Hid (∀ u : World, Below wr.heap.size wr u → u.cell? ⟨g, 0 + 4 * 1, none⟩ = some (.int .i64 (ii : Nat))) := Lib.hid fun u hu => (hu.cell (p := ⟨g, 4, none⟩) hgl).trans c4
          have HC5 : Hid (∀ u : World, Below wr.heap.size wr u → u.cell? ⟨g, 0 + 5 * 1, none⟩ = some (.int .i64 (s : Nat))) := Lib.hid fun u hu => (hu.cell (p := ⟨g, 5, none⟩) hgl).trans c5
          by_cases q : LM < d
          · have HR2 : Hid (longS L = none) := Lib.hid (by rw [HR.out]; unfold timeS; rw [if_pos (by rw [← HLM.out]; exact Or.inr (Or.inr (Or.inr (Or.inl q))))])
            have z3 : decide ((LM : Int) < (d : Int)) = true := decide_eq_true (by omega)
            refine wp_region_softG 46 (by kernel_rfl) (by kernel_rfl) (by rfl) hRs ?_
            refine g_move (R := Is (.slice (some ⟨g, 0, none⟩) 6 cap)) (by rfl) (stb_is _) (by exact fun _ _ _ h => h) ?_
            refine g_ixi (b := g) (f := 0) (len := 6) (c := cap) (i := 1) (by rfl) (by exact fun _ _ _ h => h) (by exact fun _ _ _ h => h) (by decide) ?_
            refine g_cellw (g := g) (k := 0 + 1 * 1) (v := .int .i64 (m : Nat)) (R := Is (.int .i64 (m : Nat))) (by rfl) (by exact fun _ _ _ h => h) (HC1.out) isAgg_int (stb_is _) (by exact fun _ _ => rfl) ?_
            refine g_bin (v := .int .i64 (m : Nat)) (u := .int .i64 1) (r := .bool false) (by rfl) (by exact fun _ _ _ h => h) (by exact fun _ _ _ h => h) (by rfl) (fun W => bin_lssI (r := false) _ _ z0 W) ?_
            refine g_move (R := Is (.bool false)) (by rfl) (stb_is _) (by exact fun _ _ _ h => h) ?_
            refine g_move (R := Is (.slice (some ⟨g, 0, none⟩) 6 cap)) (by rfl) (stb_is _) (by exact fun _ _ _ h => h) ?_
            refine g_ixi (b := g) (f := 0) (len := 6) (c := cap) (i := 1) (by rfl) (by exact fun _ _ _ h => h) (by exact fun _ _ _ h => h) (by decide) ?_
            refine g_cellw (g := g) (k := 0 + 1 * 1) (v := .int .i64 (m : Nat)) (R := Is (.int .i64 (m : Nat))) (by rfl) (by exact fun _ _ _ h => h) (HC1.out) isAgg_int (stb_is _) (by exact fun _ _ => rfl) ?_
            refine g_bin (v := .int .i64 (m : Nat)) (u := .int .i64 12) (r := .bool false) (by rfl) (by exact fun _ _ _ h => h) (by exact fun _ _ _ h => h) (by rfl) (fun W => bin_gtrI (r := false) _ _ z1 W) ?_
            refine g_pick (b := false) (R := Is (.bool false)) (by rfl) (by exact fun _ _ _ h => h) (stb_is _) (by exact fun _ _ _ h => h) ?_
            refine g_move (R := Is (.bool false)) (by rfl) (stb_is _) (by exact fun _ _ _ h => h) ?_
            refine g_move (R := Is (.slice (some ⟨g, 0, none⟩) 6 cap)) (by rfl) (stb_is _) (by exact fun _ _ _ h => h) ?_
            refine g_ixi (b := g) (f := 0) (len := 6) (c := cap) (i := 2) (by rfl) (by exact fun _ _ _ h => h) (by exact fun _ _ _ h => h) (by decide) ?_
            refine g_cellw (g := g) (k := 0 + 2 * 1) (v := .int .i64 (d : Nat)) (R := Is (.int .i64 (d : Nat))) (by rfl) (by exact fun _ _ _ h => h) (HC2.out) isAgg_int (stb_is _) (by exact fun _ _ => rfl) ?_
            refine g_bin (v := .int .i64 (d : Nat)) (u := .int .i64 1) (r := .bool false) (by rfl) (by exact fun _ _ _ h => h) (by exact fun _ _ _ h => h) (by rfl) (fun W => bin_lssI (r := false) _ _ z2 W) ?_
            refine g_pick (b := false) (R := Is (.bool false)) (by rfl) (by exact fun _ _ _ h => h) (stb_is _) (by exact fun _ _ _ h => h) ?_
            refine g_move (R := Is (.bool false)) (by rfl) (stb_is _) (by exact fun _ _ _ h => h) ?_
            refine g_move (R := Is (.slice (some ⟨g, 0, none⟩) 6 cap)) (by rfl) (stb_is _) (by exact fun _ _ _ h => h) ?_
            refine g_ixi (b := g) (f := 0) (len := 6) (c := cap) (i := 2) (by rfl) (by exact fun _ _ _ h => h) (by exact fun _ _ _ h => h) (by decide) ?_
            refine g_cellw (g := g) (k := 0 + 2 * 1) (v := .int .i64 (d : Nat)) (R := Is (.int .i64 (d : Nat))) (by rfl) (by exact fun _ _ _ h => h) (HC2.out) isAgg_int (stb_is _) (by exact fun _ _ => rfl) ?_
            refine g_move (R := Is (.slice (some ⟨g, 0, none⟩) 6 cap)) (by rfl) (stb_is _) (by exact fun _ _ _ h => h) ?_
            refine g_ixi (b := g) (f := 0) (len := 6) (c := cap) (i := 0) (by rfl) (by exact fun _ _ _ h => h) (by exact fun _ _ _ h => h) (by decide) ?_
            refine g_cellw (g := g) (k := 0 + 0 * 1) (v := .int .i64 (y : Nat)) (R := Is (.int .i64 (y : Nat))) (by rfl) (by exact fun _ _ _ h => h) (HC0.out) isAgg_int (stb_is _) (by exact fun _ _ => rfl) ?_
            refine g_move (R := Is (.slice (some ⟨g, 0, none⟩) 6 cap)) (by rfl) (stb_is _) (by exact fun _ _ _ h => h) ?_
            refine g_ixi (b := g) (f := 0) (len := 6) (c := cap) (i := 1) (by rfl) (by exact fun _ _ _ h => h) (by exact fun _ _ _ h => h) (by decide) ?_
            refine g_cellw (g := g) (k := 0 + 1 * 1) (v := .int .i64 (m : Nat)) (R := Is (.int .i64 (m : Nat))) (by rfl) (by exact fun _ _ _ h => h) (HC1.out) isAgg_int (stb_is _) (by exact fun _ _ => rfl) ?_
            refine g_callK (f := 57) (xs := [.tmp 86, .tmp 89]) [.int .i64 (y : Nat), .int .i64 (m : Nat)] (R := Is (.int .i64 (LM : Nat))) (by rfl) Tryz.func57 (by kernel_rfl) rfl (stb_is _) ⟨(by exact fun _ _ _ h => h), (by exact fun _ _ _ h => h), trivial⟩ (HDR.out) ?_
            refine g_bin (v := .int .i64 (d : Nat)) (u := .int .i64 (LM : Nat)) (r := .bool true) (by rfl) (by exact fun _ _ _ h => h) (by exact fun _ _ _ h => h) (by rfl) (fun W => bin_gtrI (r := true) _ _ z3 W) ?_
            refine g_pick (b := false) (R := Is (.bool true)) (by rfl) (by exact fun _ _ _ h => h) (stb_is _) (by exact fun _ _ _ h => h) ?_
            refine g_move (R := Is (.bool true)) (by rfl) (stb_is _) (by exact fun _ _ _ h => h) ?_
            refine g_dead (dead_of rfl rfl (fun _ _ _ h => h) (by rfl)) ?_
            refine g_dead (dead_of rfl rfl (fun _ _ _ h => h) (by rfl)) ?_
            refine g_dead (dead_of rfl rfl (fun _ _ _ h => h) (by rfl)) ?_
            refine g_dead (dead_of rfl rfl (fun _ _ _ h => h) (by rfl)) ?_
            refine g_pick (b := true) (R := Is (.bool true)) (by rfl) (by exact fun _ _ _ h => h) (stb_is _) (by exact fun _ _ _ h => h) ?_
            refine g_move (R := Is (.bool true)) (by rfl) (stb_is _) (by exact fun _ _ _ h => h) ?_
            refine g_dead (dead_of rfl rfl (fun _ _ _ h => h) (by rfl)) ?_
            refine g_dead (dead_of rfl rfl (fun _ _ _ h => h) (by rfl)) ?_
            refine g_dead (dead_of rfl rfl (fun _ _ _ h => h) (by rfl)) ?_
            refine g_dead (dead_of rfl rfl (fun _ _ _ h => h) (by rfl)) ?_
            refine g_pick (b := true) (R := Is (.bool true)) (by rfl) (by exact fun _ _ _ h => h) (stb_is _) (by exact fun _ _ _ h => h) ?_
            refine g_move (R := Is (.bool true)) (by rfl) (stb_is _) (by exact fun _ _ _ h => h) ?_
            refine g_dead (dead_of rfl rfl (fun _ _ _ h => h) (by rfl)) ?_
            refine g_dead (dead_of rfl rfl (fun _ _ _ h => h) (by rfl)) ?_
            refine g_dead (dead_of rfl rfl (fun _ _ _ h => h) (by rfl)) ?_
            refine g_dead (dead_of rfl rfl (fun _ _ _ h => h) (by rfl)) ?_
            intro w13 hR13 hb13 v64 h64 v65 h65 v66 h66 v67 h67 v68 h68 v69 h69 v70 h70 v71 h71 v72 h72 v73 h73 v74 h74 v75 h75 v76 h76 v77 h77 v78 h78 v79 h79 v80 h80 v81 h81 v82 h82 v83 h83 v84 h84 v85 h85 v86 h86 v87 h87 v88 h88 v89 h89 v90 h90 v91 h91 v92 h92 v93 h93 v94 h94 v95 h95 v96 h96 v97 h97 v98 h98 v99 h99 v100 h100 v101 h101 v102 h102 v103 h103 v104 h104 v105 h105 v106 h106 v107 h107 v108 h108 v109 h109
            simp only [softEnd, Act.put, List.setIfInBounds_toArray, List.set_cons_succ, List.set_cons_zero, List.drop_succ_cons, List.drop_zero]
            obtain rfl : v105 = .bool true := h105
            clear h64 h65 h66 h67 h68 h69 h70 h71 h72 h73 h74 h75 h76 h77 h78 h79 h80 h81 h82 h83 h84 h85 h86 h87 h88 h89 h90 h91 h92 h93 h94 h95 h96 h97 h98 h99 h100 h101 h102 h103 h104 h106 h107 h108 h109
            go_wp2_with fail
            go_ret2
            rw [HR2.out]
            exact ⟨rfl, hR13.below⟩
          have z3 : decide ((LM : Int) < (d : Int)) = false := decide_eq_false (by omega)
          have r3 := q
          clear q
          by_cases q : 23 < h
          · have HR2 : Hid (longS L = none) := Lib.hid (by rw [HR.out]; unfold timeS; rw [if_pos (by rw [← HLM.out]; exact Or.inr (Or.inr (Or.inr (Or.inr (Or.inl q)))))])
            have z4 : decide ((23 : Int) < (h : Int)) = true := decide_eq_true (by omega)
            refine wp_region_softG 46 (by kernel_rfl) (by kernel_rfl) (by rfl) hRs ?_
            refine g_move (R := Is (.slice (some ⟨g, 0, none⟩) 6 cap)) (by rfl) (stb_is _) (by exact fun _ _ _ h => h) ?_
            refine g_ixi (b := g) (f := 0) (len := 6) (c := cap) (i := 1) (by rfl) (by exact fun _ _ _ h => h) (by exact fun _ _ _ h => h) (by decide) ?_
            refine g_cellw (g := g) (k := 0 + 1 * 1) (v := .int .i64 (m : Nat)) (R := Is (.int .i64 (m : Nat))) (by rfl) (by exact fun _ _ _ h => h) (HC1.out) isAgg_int (stb_is _) (by exact fun _ _ => rfl) ?_
            refine g_bin (v := .int .i64 (m : Nat)) (u := .int .i64 1) (r := .bool false) (by rfl) (by exact fun _ _ _ h => h) (by exact fun _ _ _ h => h) (by rfl) (fun W => bin_lssI (r := false) _ _ z0 W) ?_
            refine g_move (R := Is (.bool false)) (by rfl) (stb_is _) (by exact fun _ _ _ h => h) ?_
            refine g_move (R := Is (.slice (some ⟨g, 0, none⟩) 6 cap)) (by rfl) (stb_is _) (by exact fun _ _ _ h => h) ?_
            refine g_ixi (b := g) (f := 0) (len := 6) (c := cap) (i := 1) (by rfl) (by exact fun _ _ _ h => h) (by exact fun _ _ _ h => h) (by decide) ?_
            refine g_cellw (g := g) (k := 0 + 1 * 1) (v := .int .i64 (m : Nat)) (R := Is (.int .i64 (m : Nat))) (by rfl) (by exact fun _ _ _ h => h) (HC1.out) isAgg_int (stb_is _) (by exact fun _ _ => rfl) ?_
            refine g_bin (v := .int .i64 (m : Nat)) (u := .int .i64 12) (r := .bool false) (by rfl) (by exact fun _ _ _ h => h) (by exact fun _ _ _ h => h) (by rfl) (fun W => bin_gtrI (r := false) _ _ z1 W) ?_
            refine g_pick (b := false) (R := Is (.bool false)) (by rfl) (by exact fun _ _ _ h => h) (stb_is _) (by exact fun _ _ _ h => h) ?_
            refine g_move (R := Is (.bool false)) (by rfl) (stb_is _) (by exact fun _ _ _ h => h) ?_
            refine g_move (R := Is (.slice (some ⟨g, 0, none⟩) 6 cap)) (by rfl) (stb_is _) (by exact fun _ _ _ h => h) ?_
            refine g_ixi (b := g) (f := 0) (len := 6) (c := cap) (i := 2) (by rfl) (by exact fun _ _ _ h => h) (by exact fun _ _ _ h => h) (by decide) ?_
            refine g_cellw (g := g) (k := 0 + 2 * 1) (v := .int .i64 (d : Nat)) (R := Is (.int .i64 (d : Nat))) (by rfl) (by exact fun _ _ _ h => h) (HC2.out) isAgg_int (stb_is _) (by exact fun _ _ => rfl) ?_
            refine g_bin (v := .int .i64 (d : Nat)) (u := .int .i64 1) (r := .bool false) (by rfl) (by exact fun _ _ _ h => h) (by exact fun _ _ _ h => h) (by rfl) (fun W => bin_lssI (r := false) _ _ z2 W) ?_
            refine g_pick (b := false) (R := Is (.bool false)) (by rfl) (by exact fun _ _ _ h => h) (stb_is _) (by exact fun _ _ _ h => h) ?_
            refine g_move (R := Is (.bool false)) (by rfl) (stb_is _) (by exact fun _ _ _ h => h) ?_
            refine g_move (R := Is (.slice (some ⟨g, 0, none⟩) 6 cap)) (by rfl) (stb_is _) (by exact fun _ _ _ h => h) ?_
            refine g_ixi (b := g) (f := 0) (len := 6) (c := cap) (i := 2) (by rfl) (by exact fun _ _ _ h => h) (by exact fun _ _ _ h => h) (by decide) ?_
            refine g_cellw (g := g) (k := 0 + 2 * 1) (v := .int .i64 (d : Nat)) (R := Is (.int .i64 (d : Nat))) (by rfl) (by exact fun _ _ _ h => h) (HC2.out) isAgg_int (stb_is _) (by exact fun _ _ => rfl) ?_
            refine g_move (R := Is (.slice (some ⟨g, 0, none⟩) 6 cap)) (by rfl) (stb_is _) (by exact fun _ _ _ h => h) ?_
            refine g_ixi (b := g) (f := 0) (len := 6) (c := cap) (i := 0) (by rfl) (by exact fun _ _ _ h => h) (by exact fun _ _ _ h => h) (by decide) ?_
            refine g_cellw (g := g) (k := 0 + 0 * 1) (v := .int .i64 (y : Nat)) (R := Is (.int .i64 (y : Nat))) (by rfl) (by exact fun _ _ _ h => h) (HC0.out) isAgg_int (stb_is _) (by exact fun _ _ => rfl) ?_
            refine g_move (R := Is (.slice (some ⟨g, 0, none⟩) 6 cap)) (by rfl) (stb_is _) (by exact fun _ _ _ h => h) ?_
            refine g_ixi (b := g) (f := 0) (len := 6) (c := cap) (i := 1) (by rfl) (by exact fun _ _ _ h => h) (by exact fun _ _ _ h => h) (by decide) ?_
            refine g_cellw (g := g) (k := 0 + 1 * 1) (v := .int .i64 (m : Nat)) (R := Is (.int .i64 (m : Nat))) (by rfl) (by exact fun _ _ _ h => h) (HC1.out) isAgg_int (stb_is _) (by exact fun _ _ => rfl) ?_
            refine g_callK (f := 57) (xs := [.tmp 86, .tmp 89]) [.int .i64 (y : Nat), .int .i64 (m : Nat)] (R := Is (.int .i64 (LM : Nat))) (by rfl) Tryz.func57 (by kernel_rfl) rfl (stb_is _) ⟨(by exact fun _ _ _ h => h), (by exact fun _ _ _ h => h), trivial⟩ (HDR.out) ?_
            refine g_bin (v := .int .i64 (d : Nat)) (u := .int .i64 (LM : Nat)) (r := .bool false) (by rfl) (by exact fun _ _ _ h => h) (by exact fun _ _ _ h => h) (by rfl) (fun W => bin_gtrI (r := false) _ _ z3 W) ?_
            refine g_pick (b := false) (R := Is (.bool false)) (by rfl) (by exact fun _ _ _ h => h) (stb_is _) (by exact fun _ _ _ h => h) ?_
            refine g_move (R := Is (.bool false)) (by rfl) (stb_is _) (by exact fun _ _ _ h => h) ?_
            refine g_move (R := Is (.slice (some ⟨g, 0, none⟩) 6 cap)) (by rfl) (stb_is _) (by exact fun _ _ _ h => h) ?_
            refine g_ixi (b := g) (f := 0) (len := 6) (c := cap) (i := 3) (by rfl) (by exact fun _ _ _ h => h) (by exact fun _ _ _ h => h) (by decide) ?_
            refine g_cellw (g := g) (k := 0 + 3 * 1) (v := .int .i64 (h : Nat)) (R := Is (.int .i64 (h : Nat))) (by rfl) (by exact fun _ _ _ h => h) (HC3.out) isAgg_int (stb_is _) (by exact fun _ _ => rfl) ?_
            refine g_bin (v := .int .i64 (h : Nat)) (u := .int .i64 23) (r := .bool true) (by rfl) (by exact fun _ _ _ h => h) (by exact fun _ _ _ h => h) (by rfl) (fun W => bin_gtrI (r := true) _ _ z4 W) ?_
            refine g_pick (b := false) (R := Is (.bool true)) (by rfl) (by exact fun _ _ _ h => h) (stb_is _) (by exact fun _ _ _ h => h) ?_
            refine g_move (R := Is (.bool true)) (by rfl) (stb_is _) (by exact fun _ _ _ h => h) ?_
            refine g_dead (dead_of rfl rfl (fun _ _ _ h => h) (by rfl)) ?_
            refine g_dead (dead_of rfl rfl (fun _ _ _ h => h) (by rfl)) ?_
            refine g_dead (dead_of rfl rfl (fun _ _ _ h => h) (by rfl)) ?_
            refine g_dead (dead_of rfl rfl (fun _ _ _ h => h) (by rfl)) ?_
            refine g_pick (b := true) (R := Is (.bool true)) (by rfl) (by exact fun _ _ _ h => h) (stb_is _) (by exact fun _ _ _ h => h) ?_
            refine g_move (R := Is (.bool true)) (by rfl) (stb_is _) (by exact fun _ _ _ h => h) ?_
            refine g_dead (dead_of rfl rfl (fun _ _ _ h => h) (by rfl)) ?_
            refine g_dead (dead_of rfl rfl (fun _ _ _ h => h) (by rfl)) ?_
            refine g_dead (dead_of rfl rfl (fun _ _ _ h => h) (by rfl)) ?_
            refine g_dead (dead_of rfl rfl (fun _ _ _ h => h) (by rfl)) ?_
            intro w13 hR13 hb13 v64 h64 v65 h65 v66 h66 v67 h67 v68 h68 v69 h69 v70 h70 v71 h71 v72 h72 v73 h73 v74 h74 v75 h75 v76 h76 v77 h77 v78 h78 v79 h79 v80 h80 v81 h81 v82 h82 v83 h83 v84 h84 v85 h85 v86 h86 v87 h87 v88 h88 v89 h89 v90 h90 v91 h91 v92 h92 v93 h93 v94 h94 v95 h95 v96 h96 v97 h97 v98 h98 v99 h99 v100 h100 v101 h101 v102 h102 v103 h103 v104 h104 v105 h105 v106 h106 v107 h107 v108 h108 v109 h109
            simp only [softEnd, Act.put, List.setIfInBounds_toArray, List.set_cons_succ, List.set_cons_zero, List.drop_succ_cons, List.drop_zero]
            obtain rfl : v105 = .bool true := h105
            clear h64 h65 h66 h67 h68 h69 h70 h71 h72 h73 h74 h75 h76 h77 h78 h79 h80 h81 h82 h83 h84 h85 h86 h87 h88 h89 h90 h91 h92 h93 h94 h95 h96 h97 h98 h99 h100 h101 h102 h103 h104 h106 h107 h108 h109
            go_wp2_with fail
            go_ret2
            rw [HR2.out]
            exact ⟨rfl, hR13.below⟩
          have z4 : decide ((23 : Int) < (h : Int)) = false := decide_eq_false (by omega)
          have r4 := q
          clear q
          by_cases q : 59 < ii
          · have HR2 : Hid (longS L = none) := Lib.hid (by rw [HR.out]; unfold timeS; rw [if_pos (by rw [← HLM.out]; exact Or.inr (Or.inr (Or.inr (Or.inr (Or.inr (Or.inl q))))))])
            have z5 : decide ((59 : Int) < (ii : Int)) = true := decide_eq_true (by omega)
            refine wp_region_softG 46 (by kernel_rfl) (by kernel_rfl) (by rfl) hRs ?_
            refine g_move (R := Is (.slice (some ⟨g, 0, none⟩) 6 cap)) (by rfl) (stb_is _) (by exact fun _ _ _ h => h) ?_
            refine g_ixi (b := g) (f := 0) (len := 6) (c := cap) (i := 1) (by rfl) (by exact fun _ _ _ h => h) (by exact fun _ _ _ h => h) (by decide) ?_
            refine g_cellw (g := g) (k := 0 + 1 * 1) (v := .int .i64 (m : Nat)) (R := Is (.int .i64 (m : Nat))) (by rfl) (by exact fun _ _ _ h => h) (HC1.out) isAgg_int (stb_is _) (by exact fun _ _ => rfl) ?_
            refine g_bin (v := .int .i64 (m : Nat)) (u := .int .i64 1) (r := .bool false) (by rfl) (by exact fun _ _ _ h => h) (by exact fun _ _ _ h => h) (by rfl) (fun W => bin_lssI (r := false) _ _ z0 W) ?_
            refine g_move (R := Is (.bool false)) (by rfl) (stb_is _) (by exact fun _ _ _ h => h) ?_
            refine g_move (R := Is (.slice (some ⟨g, 0, none⟩) 6 cap)) (by rfl) (stb_is _) (by exact fun _ _ _ h => h) ?_
            refine g_ixi (b := g) (f := 0) (len := 6) (c := cap) (i := 1) (by rfl) (by exact fun _ _ _ h => h) (by exact fun _ _ _ h => h) (by decide) ?_
            refine g_cellw (g := g) (k := 0 + 1 * 1) (v := .int .i64 (m : Nat)) (R := Is (.int .i64 (m : Nat))) (by rfl) (by exact fun _ _ _ h => h) (HC1.out) isAgg_int (stb_is _) (by exact fun _ _ => rfl) ?_
            refine g_bin (v := .int .i64 (m : Nat)) (u := .int .i64 12) (r := .bool false) (by rfl) (by exact fun _ _ _ h => h) (by exact fun _ _ _ h => h) (by rfl) (fun W => bin_gtrI (r := false) _ _ z1 W) ?_
            refine g_pick (b := false) (R := Is (.bool false)) (by rfl) (by exact fun _ _ _ h => h) (stb_is _) (by exact fun _ _ _ h => h) ?_
            refine g_move (R := Is (.bool false)) (by rfl) (stb_is _) (by exact fun _ _ _ h => h) ?_
            refine g_move (R := Is (.slice (some ⟨g, 0, none⟩) 6 cap)) (by rfl) (stb_is _) (by exact fun _ _ _ h => h) ?_
            refine g_ixi (b := g) (f := 0) (len := 6) (c := cap) (i := 2) (by rfl) (by exact fun _ _ _ h => h) (by exact fun _ _ _ h => h) (by decide) ?_
            refine g_cellw (g := g) (k := 0 + 2 * 1) (v := .int .i64 (d : Nat)) (R := Is (.int .i64 (d : Nat))) (by rfl) (by exact fun _ _ _ h => h) (HC2.out) isAgg_int (stb_is _) (by exact fun _ _ => rfl) ?_
            refine g_bin (v := .int .i64 (d : Nat)) (u := .int .i64 1) (r := .bool false) (by rfl) (by exact fun _ _ _ h => h) (by exact fun _ _ _ h => h) (by rfl) (fun W => bin_lssI (r := false) _ _ z2 W) ?_
            refine g_pick (b := false) (R := Is (.bool false)) (by rfl) (by exact fun _ _ _ h => h) (stb_is _) (by exact fun _ _ _ h => h) ?_
            refine g_move (R := Is (.bool false)) (by rfl) (stb_is _) (by exact fun _ _ _ h => h) ?_
            refine g_move (R := Is (.slice (some ⟨g, 0, none⟩) 6 cap)) (by rfl) (stb_is _) (by exact fun _ _ _ h => h) ?_
            refine g_ixi (b := g) (f := 0) (len := 6) (c := cap) (i := 2) (by rfl) (by exact fun _ _ _ h => h) (by exact fun _ _ _ h => h) (by decide) ?_
            refine g_cellw (g := g) (k := 0 + 2 * 1) (v := .int .i64 (d : Nat)) (R := Is (.int .i64 (d : Nat))) (by rfl) (by exact fun _ _ _ h => h) (HC2.out) isAgg_int (stb_is _) (by exact fun _ _ => rfl) ?_
            refine g_move (R := Is (.slice (some ⟨g, 0, none⟩) 6 cap)) (by rfl) (stb_is _) (by exact fun _ _ _ h => h) ?_
            refine g_ixi (b := g) (f := 0) (len := 6) (c := cap) (i := 0) (by rfl) (by exact fun _ _ _ h => h) (by exact fun _ _ _ h => h) (by decide) ?_
            refine g_cellw (g := g) (k := 0 + 0 * 1) (v := .int .i64 (y : Nat)) (R := Is (.int .i64 (y : Nat))) (by rfl) (by exact fun _ _ _ h => h) (HC0.out) isAgg_int (stb_is _) (by exact fun _ _ => rfl) ?_
            refine g_move (R := Is (.slice (some ⟨g, 0, none⟩) 6 cap)) (by rfl) (stb_is _) (by exact fun _ _ _ h => h) ?_
            refine g_ixi (b := g) (f := 0) (len := 6) (c := cap) (i := 1) (by rfl) (by exact fun _ _ _ h => h) (by exact fun _ _ _ h => h) (by decide) ?_
            refine g_cellw (g := g) (k := 0 + 1 * 1) (v := .int .i64 (m : Nat)) (R := Is (.int .i64 (m : Nat))) (by rfl) (by exact fun _ _ _ h => h) (HC1.out) isAgg_int (stb_is _) (by exact fun _ _ => rfl) ?_
            refine g_callK (f := 57) (xs := [.tmp 86, .tmp 89]) [.int .i64 (y : Nat), .int .i64 (m : Nat)] (R := Is (.int .i64 (LM : Nat))) (by rfl) Tryz.func57 (by kernel_rfl) rfl (stb_is _) ⟨(by exact fun _ _ _ h => h), (by exact fun _ _ _ h => h), trivial⟩ (HDR.out) ?_
            refine g_bin (v := .int .i64 (d : Nat)) (u := .int .i64 (LM : Nat)) (r := .bool false) (by rfl) (by exact fun _ _ _ h => h) (by exact fun _ _ _ h => h) (by rfl) (fun W => bin_gtrI (r := false) _ _ z3 W) ?_
            refine g_pick (b := false) (R := Is (.bool false)) (by rfl) (by exact fun _ _ _ h => h) (stb_is _) (by exact fun _ _ _ h => h) ?_
            refine g_move (R := Is (.bool false)) (by rfl) (stb_is _) (by exact fun _ _ _ h => h) ?_
            refine g_move (R := Is (.slice (some ⟨g, 0, none⟩) 6 cap)) (by rfl) (stb_is _) (by exact fun _ _ _ h => h) ?_
            refine g_ixi (b := g) (f := 0) (len := 6) (c := cap) (i := 3) (by rfl) (by exact fun _ _ _ h => h) (by exact fun _ _ _ h => h) (by decide) ?_
            refine g_cellw (g := g) (k := 0 + 3 * 1) (v := .int .i64 (h : Nat)) (R := Is (.int .i64 (h : Nat))) (by rfl) (by exact fun _ _ _ h => h) (HC3.out) isAgg_int (stb_is _) (by exact fun _ _ => rfl) ?_
            refine g_bin (v := .int .i64 (h : Nat)) (u := .int .i64 23) (r := .bool false) (by rfl) (by exact fun _ _ _ h => h) (by exact fun _ _ _ h => h) (by rfl) (fun W => bin_gtrI (r := false) _ _ z4 W) ?_
            refine g_pick (b := false) (R := Is (.bool false)) (by rfl) (by exact fun _ _ _ h => h) (stb_is _) (by exact fun _ _ _ h => h) ?_
            refine g_move (R := Is (.bool false)) (by rfl) (stb_is _) (by exact fun _ _ _ h => h) ?_
            refine g_move (R := Is (.slice (some ⟨g, 0, none⟩) 6 cap)) (by rfl) (stb_is _) (by exact fun _ _ _ h => h) ?_
            refine g_ixi (b := g) (f := 0) (len := 6) (c := cap) (i := 4) (by rfl) (by exact fun _ _ _ h => h) (by exact fun _ _ _ h => h) (by decide) ?_
            refine g_cellw (g := g) (k := 0 + 4 * 1) (v := .int .i64 (ii : Nat)) (R := Is (.int .i64 (ii : Nat))) (by rfl) (by exact fun _ _ _ h => h) (HC4.out) isAgg_int (stb_is _) (by exact fun _ _ => rfl) ?_
            refine g_bin (v := .int .i64 (ii : Nat)) (u := .int .i64 59) (r := .bool true) (by rfl) (by exact fun _ _ _ h => h) (by exact fun _ _ _ h => h) (by rfl) (fun W => bin_gtrI (r := true) _ _ z5 W) ?_
            refine g_pick (b := false) (R := Is (.bool true)) (by rfl) (by exact fun _ _ _ h => h) (stb_is _) (by exact fun _ _ _ h => h) ?_
            refine g_move (R := Is (.bool true)) (by rfl) (stb_is _) (by exact fun _ _ _ h => h) ?_
            refine g_dead (dead_of rfl rfl (fun _ _ _ h => h) (by rfl)) ?_
            refine g_dead (dead_of rfl rfl (fun _ _ _ h => h) (by rfl)) ?_
            refine g_dead (dead_of rfl rfl (fun _ _ _ h => h) (by rfl)) ?_
            refine g_dead (dead_of rfl rfl (fun _ _ _ h => h) (by rfl)) ?_
            intro w13 hR13 hb13 v64 h64 v65 h65 v66 h66 v67 h67 v68 h68 v69 h69 v70 h70 v71 h71 v72 h72 v73 h73 v74 h74 v75 h75 v76 h76 v77 h77 v78 h78 v79 h79 v80 h80 v81 h81 v82 h82 v83 h83 v84 h84 v85 h85 v86 h86 v87 h87 v88 h88 v89 h89 v90 h90 v91 h91 v92 h92 v93 h93 v94 h94 v95 h95 v96 h96 v97 h97 v98 h98 v99 h99 v100 h100 v101 h101 v102 h102 v103 h103 v104 h104 v105 h105 v106 h106 v107 h107 v108 h108 v109 h109
            simp only [softEnd, Act.put, List.setIfInBounds_toArray, List.set_cons_succ, List.set_cons_zero, List.drop_succ_cons, List.drop_zero]
            obtain rfl : v105 = .bool true := h105
            clear h64 h65 h66 h67 h68 h69 h70 h71 h72 h73 h74 h75 h76 h77 h78 h79 h80 h81 h82 h83 h84 h85 h86 h87 h88 h89 h90 h91 h92 h93 h94 h95 h96 h97 h98 h99 h100 h101 h102 h103 h104 h106 h107 h108 h109
            go_wp2_with fail
            go_ret2
            rw [HR2.out]
            exact ⟨rfl, hR13.below⟩
          have z5 : decide ((59 : Int) < (ii : Int)) = false := decide_eq_false (by omega)
          have r5 := q
          clear q
          by_cases q : 59 < s
          · have HR2 : Hid (longS L = none) := Lib.hid (by rw [HR.out]; unfold timeS; rw [if_pos (by rw [← HLM.out]; exact Or.inr (Or.inr (Or.inr (Or.inr (Or.inr (Or.inr (q)))))))])
            have z6 : decide ((59 : Int) < (s : Int)) = true := decide_eq_true (by omega)
            refine wp_region_softG 46 (by kernel_rfl) (by kernel_rfl) (by rfl) hRs ?_
            refine g_move (R := Is (.slice (some ⟨g, 0, none⟩) 6 cap)) (by rfl) (stb_is _) (by exact fun _ _ _ h => h) ?_
            refine g_ixi (b := g) (f := 0) (len := 6) (c := cap) (i := 1) (by rfl) (by exact fun _ _ _ h => h) (by exact fun _ _ _ h => h) (by decide) ?_
            refine g_cellw (g := g) (k := 0 + 1 * 1) (v := .int .i64 (m : Nat)) (R := Is (.int .i64 (m : Nat))) (by rfl) (by exact fun _ _ _ h => h) (HC1.out) isAgg_int (stb_is _) (by exact fun _ _ => rfl) ?_
            refine g_bin (v := .int .i64 (m : Nat)) (u := .int .i64 1) (r := .bool false) (by rfl) (by exact fun _ _ _ h => h) (by exact fun _ _ _ h => h) (by rfl) (fun W => bin_lssI (r := false) _ _ z0 W) ?_
            refine g_move (R := Is (.bool false)) (by rfl) (stb_is _) (by exact fun _ _ _ h => h) ?_
            refine g_move (R := Is (.slice (some ⟨g, 0, none⟩) 6 cap)) (by rfl) (stb_is _) (by exact fun _ _ _ h => h) ?_
            refine g_ixi (b := g) (f := 0) (len := 6) (c := cap) (i := 1) (by rfl) (by exact fun _ _ _ h => h) (by exact fun _ _ _ h => h) (by decide) ?_
            refine g_cellw (g := g) (k := 0 + 1 * 1) (v := .int .i64 (m : Nat)) (R := Is (.int .i64 (m : Nat))) (by rfl) (by exact fun _ _ _ h => h) (HC1.out) isAgg_int (stb_is _) (by exact fun _ _ => rfl) ?_
            refine g_bin (v := .int .i64 (m : Nat)) (u := .int .i64 12) (r := .bool false) (by rfl) (by exact fun _ _ _ h => h) (by exact fun _ _ _ h => h) (by rfl) (fun W => bin_gtrI (r := false) _ _ z1 W) ?_
            refine g_pick (b := false) (R := Is (.bool false)) (by rfl) (by exact fun _ _ _ h => h) (stb_is _) (by exact fun _ _ _ h => h) ?_
            refine g_move (R := Is (.bool false)) (by rfl) (stb_is _) (by exact fun _ _ _ h => h) ?_
            refine g_move (R := Is (.slice (some ⟨g, 0, none⟩) 6 cap)) (by rfl) (stb_is _) (by exact fun _ _ _ h => h) ?_
            refine g_ixi (b := g) (f := 0) (len := 6) (c := cap) (i := 2) (by rfl) (by exact fun _ _ _ h => h) (by exact fun _ _ _ h => h) (by decide) ?_
            refine g_cellw (g := g) (k := 0 + 2 * 1) (v := .int .i64 (d : Nat)) (R := Is (.int .i64 (d : Nat))) (by rfl) (by exact fun _ _ _ h => h) (HC2.out) isAgg_int (stb_is _) (by exact fun _ _ => rfl) ?_
            refine g_bin (v := .int .i64 (d : Nat)) (u := .int .i64 1) (r := .bool false) (by rfl) (by exact fun _ _ _ h => h) (by exact fun _ _ _ h => h) (by rfl) (fun W => bin_lssI (r := false) _ _ z2 W) ?_
            refine g_pick (b := false) (R := Is (.bool false)) (by rfl) (by exact fun _ _ _ h => h) (stb_is _) (by exact fun _ _ _ h => h) ?_
            refine g_move (R := Is (.bool false)) (by rfl) (stb_is _) (by exact fun _ _ _ h => h) ?_
            refine g_move (R := Is (.slice (some ⟨g, 0, none⟩) 6 cap)) (by rfl) (stb_is _) (by exact fun _ _ _ h => h) ?_
            refine g_ixi (b := g) (f := 0) (len := 6) (c := cap) (i := 2) (by rfl) (by exact fun _ _ _ h => h) (by exact fun _ _ _ h => h) (by decide) ?_
            refine g_cellw (g := g) (k := 0 + 2 * 1) (v := .int .i64 (d : Nat)) (R := Is (.int .i64 (d : Nat))) (by rfl) (by exact fun _ _ _ h => h) (HC2.out) isAgg_int (stb_is _) (by exact fun _ _ => rfl) ?_
            refine g_move (R := Is (.slice (some ⟨g, 0, none⟩) 6 cap)) (by rfl) (stb_is _) (by exact fun _ _ _ h => h) ?_
            refine g_ixi (b := g) (f := 0) (len := 6) (c := cap) (i := 0) (by rfl) (by exact fun _ _ _ h => h) (by exact fun _ _ _ h => h) (by decide) ?_
            refine g_cellw (g := g) (k := 0 + 0 * 1) (v := .int .i64 (y : Nat)) (R := Is (.int .i64 (y : Nat))) (by rfl) (by exact fun _ _ _ h => h) (HC0.out) isAgg_int (stb_is _) (by exact fun _ _ => rfl) ?_
            refine g_move (R := Is (.slice (some ⟨g, 0, none⟩) 6 cap)) (by rfl) (stb_is _) (by exact fun _ _ _ h => h) ?_
            refine g_ixi (b := g) (f := 0) (len := 6) (c := cap) (i := 1) (by rfl) (by exact fun _ _ _ h => h) (by exact fun _ _ _ h => h) (by decide) ?_
            refine g_cellw (g := g) (k := 0 + 1 * 1) (v := .int .i64 (m : Nat)) (R := Is (.int .i64 (m : Nat))) (by rfl) (by exact fun _ _ _ h => h) (HC1.out) isAgg_int (stb_is _) (by exact fun _ _ => rfl) ?_
            refine g_callK (f := 57) (xs := [.tmp 86, .tmp 89]) [.int .i64 (y : Nat), .int .i64 (m : Nat)] (R := Is (.int .i64 (LM : Nat))) (by rfl) Tryz.func57 (by kernel_rfl) rfl (stb_is _) ⟨(by exact fun _ _ _ h => h), (by exact fun _ _ _ h => h), trivial⟩ (HDR.out) ?_
            refine g_bin (v := .int .i64 (d : Nat)) (u := .int .i64 (LM : Nat)) (r := .bool false) (by rfl) (by exact fun _ _ _ h => h) (by exact fun _ _ _ h => h) (by rfl) (fun W => bin_gtrI (r := false) _ _ z3 W) ?_
            refine g_pick (b := false) (R := Is (.bool false)) (by rfl) (by exact fun _ _ _ h => h) (stb_is _) (by exact fun _ _ _ h => h) ?_
            refine g_move (R := Is (.bool false)) (by rfl) (stb_is _) (by exact fun _ _ _ h => h) ?_
            refine g_move (R := Is (.slice (some ⟨g, 0, none⟩) 6 cap)) (by rfl) (stb_is _) (by exact fun _ _ _ h => h) ?_
            refine g_ixi (b := g) (f := 0) (len := 6) (c := cap) (i := 3) (by rfl) (by exact fun _ _ _ h => h) (by exact fun _ _ _ h => h) (by decide) ?_
            refine g_cellw (g := g) (k := 0 + 3 * 1) (v := .int .i64 (h : Nat)) (R := Is (.int .i64 (h : Nat))) (by rfl) (by exact fun _ _ _ h => h) (HC3.out) isAgg_int (stb_is _) (by exact fun _ _ => rfl) ?_
            refine g_bin (v := .int .i64 (h : Nat)) (u := .int .i64 23) (r := .bool false) (by rfl) (by exact fun _ _ _ h => h) (by exact fun _ _ _ h => h) (by rfl) (fun W => bin_gtrI (r := false) _ _ z4 W) ?_
            refine g_pick (b := false) (R := Is (.bool false)) (by rfl) (by exact fun _ _ _ h => h) (stb_is _) (by exact fun _ _ _ h => h) ?_
            refine g_move (R := Is (.bool false)) (by rfl) (stb_is _) (by exact fun _ _ _ h => h) ?_
            refine g_move (R := Is (.slice (some ⟨g, 0, none⟩) 6 cap)) (by rfl) (stb_is _) (by exact fun _ _ _ h => h) ?_
            refine g_ixi (b := g) (f := 0) (len := 6) (c := cap) (i := 4) (by rfl) (by exact fun _ _ _ h => h) (by exact fun _ _ _ h => h) (by decide) ?_
            refine g_cellw (g := g) (k := 0 + 4 * 1) (v := .int .i64 (ii : Nat)) (R := Is (.int .i64 (ii : Nat))) (by rfl) (by exact fun _ _ _ h => h) (HC4.out) isAgg_int (stb_is _) (by exact fun _ _ => rfl) ?_
            refine g_bin (v := .int .i64 (ii : Nat)) (u := .int .i64 59) (r := .bool false) (by rfl) (by exact fun _ _ _ h => h) (by exact fun _ _ _ h => h) (by rfl) (fun W => bin_gtrI (r := false) _ _ z5 W) ?_
            refine g_pick (b := false) (R := Is (.bool false)) (by rfl) (by exact fun _ _ _ h => h) (stb_is _) (by exact fun _ _ _ h => h) ?_
            refine g_move (R := Is (.bool false)) (by rfl) (stb_is _) (by exact fun _ _ _ h => h) ?_
            refine g_move (R := Is (.slice (some ⟨g, 0, none⟩) 6 cap)) (by rfl) (stb_is _) (by exact fun _ _ _ h => h) ?_
            refine g_ixi (b := g) (f := 0) (len := 6) (c := cap) (i := 5) (by rfl) (by exact fun _ _ _ h => h) (by exact fun _ _ _ h => h) (by decide) ?_
            refine g_cellw (g := g) (k := 0 + 5 * 1) (v := .int .i64 (s : Nat)) (R := Is (.int .i64 (s : Nat))) (by rfl) (by exact fun _ _ _ h => h) (HC5.out) isAgg_int (stb_is _) (by exact fun _ _ => rfl) ?_
            refine g_bin (v := .int .i64 (s : Nat)) (u := .int .i64 59) (r := .bool true) (by rfl) (by exact fun _ _ _ h => h) (by exact fun _ _ _ h => h) (by rfl) (fun W => bin_gtrI (r := true) _ _ z6 W) ?_
            intro w13 hR13 hb13 v64 h64 v65 h65 v66 h66 v67 h67 v68 h68 v69 h69 v70 h70 v71 h71 v72 h72 v73 h73 v74 h74 v75 h75 v76 h76 v77 h77 v78 h78 v79 h79 v80 h80 v81 h81 v82 h82 v83 h83 v84 h84 v85 h85 v86 h86 v87 h87 v88 h88 v89 h89 v90 h90 v91 h91 v92 h92 v93 h93 v94 h94 v95 h95 v96 h96 v97 h97 v98 h98 v99 h99 v100 h100 v101 h101 v102 h102 v103 h103 v104 h104 v105 h105 v106 h106 v107 h107 v108 h108 v109 h109
            simp only [softEnd, Act.put, List.setIfInBounds_toArray, List.set_cons_succ, List.set_cons_zero, List.drop_succ_cons, List.drop_zero]
            obtain rfl : v105 = .bool false := h105
            obtain rfl : v109 = .bool true := h109
            clear h64 h65 h66 h67 h68 h69 h70 h71 h72 h73 h74 h75 h76 h77 h78 h79 h80 h81 h82 h83 h84 h85 h86 h87 h88 h89 h90 h91 h92 h93 h94 h95 h96 h97 h98 h99 h100 h101 h102 h103 h104 h106 h107 h108
            go_wp2_with fail
            go_ret2
            rw [HR2.out]
            exact ⟨rfl, hR13.below⟩
          have z6 : decide ((59 : Int) < (s : Int)) = false := decide_eq_false (by omega)
          have r6 := q
          clear q
          refine wp_region_softG 46 (by kernel_rfl) (by kernel_rfl) (by rfl) hRs ?_
          refine g_move (R := Is (.slice (some ⟨g, 0, none⟩) 6 cap)) (by rfl) (stb_is _) (by exact fun _ _ _ h => h) ?_
          refine g_ixi (b := g) (f := 0) (len := 6) (c := cap) (i := 1) (by rfl) (by exact fun _ _ _ h => h) (by exact fun _ _ _ h => h) (by decide) ?_
          refine g_cellw (g := g) (k := 0 + 1 * 1) (v := .int .i64 (m : Nat)) (R := Is (.int .i64 (m : Nat))) (by rfl) (by exact fun _ _ _ h => h) (HC1.out) isAgg_int (stb_is _) (by exact fun _ _ => rfl) ?_
          refine g_bin (v := .int .i64 (m : Nat)) (u := .int .i64 1) (r := .bool false) (by rfl) (by exact fun _ _ _ h => h) (by exact fun _ _ _ h => h) (by rfl) (fun W => bin_lssI (r := false) _ _ z0 W) ?_
          refine g_move (R := Is (.bool false)) (by rfl) (stb_is _) (by exact fun _ _ _ h => h) ?_
          refine g_move (R := Is (.slice (some ⟨g, 0, none⟩) 6 cap)) (by rfl) (stb_is _) (by exact fun _ _ _ h => h) ?_
          refine g_ixi (b := g) (f := 0) (len := 6) (c := cap) (i := 1) (by rfl) (by exact fun _ _ _ h => h) (by exact fun _ _ _ h => h) (by decide) ?_
          refine g_cellw (g := g) (k := 0 + 1 * 1) (v := .int .i64 (m : Nat)) (R := Is (.int .i64 (m : Nat))) (by rfl) (by exact fun _ _ _ h => h) (HC1.out) isAgg_int (stb_is _) (by exact fun _ _ => rfl) ?_
          refine g_bin (v := .int .i64 (m : Nat)) (u := .int .i64 12) (r := .bool false) (by rfl) (by exact fun _ _ _ h => h) (by exact fun _ _ _ h => h) (by rfl) (fun W => bin_gtrI (r := false) _ _ z1 W) ?_
          refine g_pick (b := false) (R := Is (.bool false)) (by rfl) (by exact fun _ _ _ h => h) (stb_is _) (by exact fun _ _ _ h => h) ?_
          refine g_move (R := Is (.bool false)) (by rfl) (stb_is _) (by exact fun _ _ _ h => h) ?_
          refine g_move (R := Is (.slice (some ⟨g, 0, none⟩) 6 cap)) (by rfl) (stb_is _) (by exact fun _ _ _ h => h) ?_
          refine g_ixi (b := g) (f := 0) (len := 6) (c := cap) (i := 2) (by rfl) (by exact fun _ _ _ h => h) (by exact fun _ _ _ h => h) (by decide) ?_
          refine g_cellw (g := g) (k := 0 + 2 * 1) (v := .int .i64 (d : Nat)) (R := Is (.int .i64 (d : Nat))) (by rfl) (by exact fun _ _ _ h => h) (HC2.out) isAgg_int (stb_is _) (by exact fun _ _ => rfl) ?_
          refine g_bin (v := .int .i64 (d : Nat)) (u := .int .i64 1) (r := .bool false) (by rfl) (by exact fun _ _ _ h => h) (by exact fun _ _ _ h => h) (by rfl) (fun W => bin_lssI (r := false) _ _ z2 W) ?_
          refine g_pick (b := false) (R := Is (.bool false)) (by rfl) (by exact fun _ _ _ h => h) (stb_is _) (by exact fun _ _ _ h => h) ?_
          refine g_move (R := Is (.bool false)) (by rfl) (stb_is _) (by exact fun _ _ _ h => h) ?_
          refine g_move (R := Is (.slice (some ⟨g, 0, none⟩) 6 cap)) (by rfl) (stb_is _) (by exact fun _ _ _ h => h) ?_
          refine g_ixi (b := g) (f := 0) (len := 6) (c := cap) (i := 2) (by rfl) (by exact fun _ _ _ h => h) (by exact fun _ _ _ h => h) (by decide) ?_
          refine g_cellw (g := g) (k := 0 + 2 * 1) (v := .int .i64 (d : Nat)) (R := Is (.int .i64 (d : Nat))) (by rfl) (by exact fun _ _ _ h => h) (HC2.out) isAgg_int (stb_is _) (by exact fun _ _ => rfl) ?_
          refine g_move (R := Is (.slice (some ⟨g, 0, none⟩) 6 cap)) (by rfl) (stb_is _) (by exact fun _ _ _ h => h) ?_
          refine g_ixi (b := g) (f := 0) (len := 6) (c := cap) (i := 0) (by rfl) (by exact fun _ _ _ h => h) (by exact fun _ _ _ h => h) (by decide) ?_
          refine g_cellw (g := g) (k := 0 + 0 * 1) (v := .int .i64 (y : Nat)) (R := Is (.int .i64 (y : Nat))) (by rfl) (by exact fun _ _ _ h => h) (HC0.out) isAgg_int (stb_is _) (by exact fun _ _ => rfl) ?_
          refine g_move (R := Is (.slice (some ⟨g, 0, none⟩) 6 cap)) (by rfl) (stb_is _) (by exact fun _ _ _ h => h) ?_
          refine g_ixi (b := g) (f := 0) (len := 6) (c := cap) (i := 1) (by rfl) (by exact fun _ _ _ h => h) (by exact fun _ _ _ h => h) (by decide) ?_
          refine g_cellw (g := g) (k := 0 + 1 * 1) (v := .int .i64 (m : Nat)) (R := Is (.int .i64 (m : Nat))) (by rfl) (by exact fun _ _ _ h => h) (HC1.out) isAgg_int (stb_is _) (by exact fun _ _ => rfl) ?_
          refine g_callK (f := 57) (xs := [.tmp 86, .tmp 89]) [.int .i64 (y : Nat), .int .i64 (m : Nat)] (R := Is (.int .i64 (LM : Nat))) (by rfl) Tryz.func57 (by kernel_rfl) rfl (stb_is _) ⟨(by exact fun _ _ _ h => h), (by exact fun _ _ _ h => h), trivial⟩ (HDR.out) ?_
          refine g_bin (v := .int .i64 (d : Nat)) (u := .int .i64 (LM : Nat)) (r := .bool false) (by rfl) (by exact fun _ _ _ h => h) (by exact fun _ _ _ h => h) (by rfl) (fun W => bin_gtrI (r := false) _ _ z3 W) ?_
          refine g_pick (b := false) (R := Is (.bool false)) (by rfl) (by exact fun _ _ _ h => h) (stb_is _) (by exact fun _ _ _ h => h) ?_
          refine g_move (R := Is (.bool false)) (by rfl) (stb_is _) (by exact fun _ _ _ h => h) ?_
          refine g_move (R := Is (.slice (some ⟨g, 0, none⟩) 6 cap)) (by rfl) (stb_is _) (by exact fun _ _ _ h => h) ?_
          refine g_ixi (b := g) (f := 0) (len := 6) (c := cap) (i := 3) (by rfl) (by exact fun _ _ _ h => h) (by exact fun _ _ _ h => h) (by decide) ?_
          refine g_cellw (g := g) (k := 0 + 3 * 1) (v := .int .i64 (h : Nat)) (R := Is (.int .i64 (h : Nat))) (by rfl) (by exact fun _ _ _ h => h) (HC3.out) isAgg_int (stb_is _) (by exact fun _ _ => rfl) ?_
          refine g_bin (v := .int .i64 (h : Nat)) (u := .int .i64 23) (r := .bool false) (by rfl) (by exact fun _ _ _ h => h) (by exact fun _ _ _ h => h) (by rfl) (fun W => bin_gtrI (r := false) _ _ z4 W) ?_
          refine g_pick (b := false) (R := Is (.bool false)) (by rfl) (by exact fun _ _ _ h => h) (stb_is _) (by exact fun _ _ _ h => h) ?_
          refine g_move (R := Is (.bool false)) (by rfl) (stb_is _) (by exact fun _ _ _ h => h) ?_
          refine g_move (R := Is (.slice (some ⟨g, 0, none⟩) 6 cap)) (by rfl) (stb_is _) (by exact fun _ _ _ h => h) ?_
          refine g_ixi (b := g) (f := 0) (len := 6) (c := cap) (i := 4) (by rfl) (by exact fun _ _ _ h => h) (by exact fun _ _ _ h => h) (by decide) ?_
          refine g_cellw (g := g) (k := 0 + 4 * 1) (v := .int .i64 (ii : Nat)) (R := Is (.int .i64 (ii : Nat))) (by rfl) (by exact fun _ _ _ h => h) (HC4.out) isAgg_int (stb_is _) (by exact fun _ _ => rfl) ?_
          refine g_bin (v := .int .i64 (ii : Nat)) (u := .int .i64 59) (r := .bool false) (by rfl) (by exact fun _ _ _ h => h) (by exact fun _ _ _ h => h) (by rfl) (fun W => bin_gtrI (r := false) _ _ z5 W) ?_
          refine g_pick (b := false) (R := Is (.bool false)) (by rfl) (by exact fun _ _ _ h => h) (stb_is _) (by exact fun _ _ _ h => h) ?_
          refine g_move (R := Is (.bool false)) (by rfl) (stb_is _) (by exact fun _ _ _ h => h) ?_
          refine g_move (R := Is (.slice (some ⟨g, 0, none⟩) 6 cap)) (by rfl) (stb_is _) (by exact fun _ _ _ h => h) ?_
          refine g_ixi (b := g) (f := 0) (len := 6) (c := cap) (i := 5) (by rfl) (by exact fun _ _ _ h => h) (by exact fun _ _ _ h => h) (by decide) ?_
          refine g_cellw (g := g) (k := 0 + 5 * 1) (v := .int .i64 (s : Nat)) (R := Is (.int .i64 (s : Nat))) (by rfl) (by exact fun _ _ _ h => h) (HC5.out) isAgg_int (stb_is _) (by exact fun _ _ => rfl) ?_
          refine g_bin (v := .int .i64 (s : Nat)) (u := .int .i64 59) (r := .bool false) (by rfl) (by exact fun _ _ _ h => h) (by exact fun _ _ _ h => h) (by rfl) (fun W => bin_gtrI (r := false) _ _ z6 W) ?_
          intro w13 hR13 hb13 v64 h64 v65 h65 v66 h66 v67 h67 v68 h68 v69 h69 v70 h70 v71 h71 v72 h72 v73 h73 v74 h74 v75 h75 v76 h76 v77 h77 v78 h78 v79 h79 v80 h80 v81 h81 v82 h82 v83 h83 v84 h84 v85 h85 v86 h86 v87 h87 v88 h88 v89 h89 v90 h90 v91 h91 v92 h92 v93 h93 v94 h94 v95 h95 v96 h96 v97 h97 v98 h98 v99 h99 v100 h100 v101 h101 v102 h102 v103 h103 v104 h104 v105 h105 v106 h106 v107 h107 v108 h108 v109 h109
          simp only [softEnd, Act.put, List.setIfInBounds_toArray, List.set_cons_succ, List.set_cons_zero, List.drop_succ_cons, List.drop_zero]
          obtain rfl : v105 = .bool false := h105
          obtain rfl : v109 = .bool false := h109
          clear h64 h65 h66 h67 h68 h69 h70 h71 h72 h73 h74 h75 h76 h77 h78 h79 h80 h81 h82 h83 h84 h85 h86 h87 h88 h89 h90 h91 h92 h93 h94 h95 h96 h97 h98 h99 h100 h101 h102 h103 h104 h106 h107 h108
          have HYE : Hid (∀ u, Calls Tryz.prog 55 #[.int .i64 (y : Nat)] u fun e w' => e = .returned (.int .i64 (yearsS y : Nat)) ∧ u = w') := Lib.hid fun u => (Years_any y u (by omega)).mono fun _ _ hh => ⟨hh.1, hh.2.symm⟩
          have HY7 : Hid (∀ u, Calls Tryz.prog 55 #[.int .i64 1970] u fun e w' => e = .returned (.int .i64 719528) ∧ u = w') := Lib.hid fun u => by
            have h70 : yearsS 1970 = 719528 := day_1970
            have := Years_any 1970 u (by decide)
            rw [h70] at this
            exact this.mono fun _ _ hh => ⟨hh.1, hh.2.symm⟩
          have HDK : Hid (∀ (k : Nat) u, 1 ≤ k → k < m → Calls Tryz.prog 57 #[.int .i64 (y : Nat), .int .i64 (k : Nat)] u fun e w' => e = .returned (.int .i64 (lenM y k : Nat)) ∧ Below u.heap.size u w') := Lib.hid fun k u h1 h2 => days_any y k u (by omega) h1 (by omega)
          have HML : Hid (∀ k, 1 ≤ k → k ≤ m → monthsS y k ≤ 31 * k) := Lib.hid fun k h1 _ => months_le y k h1
          have hYL := years_le (y := y)
          obtain ⟨YY, hYY⟩ : ∃ YY, YY = yearsS y := ⟨_, rfl⟩
          have HR2 : Hid (longS L = some (86400 * (((YY + monthsS y m : Nat) : Int) + d - 1 - 719528) + 3600 * h + 60 * ii + s)) := Lib.hid (by
            rw [HR.out]; unfold timeS; rw [if_neg (by rw [← HLM.out]; omega), day_1970, hYY]; rfl)
          rw [← hYY] at HYE hYL
          have HB13 := Lib.hid hb13
          have HBW : Hid (Below w.heap.size w w13) := Lib.hid hR13.below
          have hm1 : 1 ≤ m := by omega
          have hm2 : m ≤ 12 := by omega
          have HCS : Hid (∀ u, Below w13.heap.size w13 u → u.cell? ⟨g, 0, none⟩ = some (.int .i64 (y : Nat)) ∧ u.cell? ⟨g, 1, none⟩ = some (.int .i64 (m : Nat)) ∧ u.cell? ⟨g, 2, none⟩ = some (.int .i64 (d : Nat)) ∧ u.cell? ⟨g, 3, none⟩ = some (.int .i64 (h : Nat)) ∧ u.cell? ⟨g, 4, none⟩ = some (.int .i64 (ii : Nat)) ∧ u.cell? ⟨g, 5, none⟩ = some (.int .i64 (s : Nat))) := Lib.hid fun u hu => by
            have hb := HB13.out.trans (hu.mono HB13.out.size)
            exact ⟨HC0.out u hb, HC1.out u hb, HC2.out u hb, HC3.out u hb, HC4.out u hb, HC5.out u hb⟩
          clear c0 c1 c2 c3 c4 c5 HC0 HC1 HC2 HC3 HC4 HC5 z0 z1 z2 z3 z4 z5 z6 hYY HR hb13 hRs HDR HDA
          obtain ⟨c0, c1, c2, c3, c4, c5⟩ := HCS.out w13 (Below.refl _ _)
          go_upto_region 23 with (first
            | (go_at_call_of 55 (Value.int IntKind.i64 1970); refine (HY7.out _).mono ?_; rintro e wn ⟨rfl, rfl⟩)
            | (go_at_call 55; refine (HYE.out _).mono ?_; rintro e wn ⟨rfl, rfl⟩))
          clear HYE HY7 c0 c1 c2 c3 c4 c5
          go_loopg [9, 10] (m - 1) (fun gg s9 s10 wx => ∃ k : Nat, 1 ≤ k ∧ k + gg = m ∧ s10 = .int .i64 k ∧ s9 = .int .i64 (((YY + monthsS y k : Nat) : Int) - 719528) ∧ Aside (Below w13.heap.size w13 wx))
          case atStart => exact ⟨1, Nat.le_refl _, by omega, rfl, by simp [monthsS], Below.refl _ _⟩
          case round =>
            obtain ⟨k, hk1, hkm, rfl, rfl, HBX⟩ := hrel
            obtain ⟨c0, c1, c2, c3, c4, c5⟩ := HCS.out _ HBX.out
            have hMK := HML.out k hk1 (by omega)
            cases gk with
            | succ gk =>
              have hkz : (k : Int) < (m : Int) := by omega
              have hDK := HDK.out k wr hk1 (by omega)
              obtain ⟨q, rfl⟩ : ∃ q, k = q + 1 := ⟨k - 1, by omega⟩
              have hst : monthsS y (q + 1 + 1) = monthsS y (q + 1) + lenM y (q + 1) := rfl
              have hle : lenM y (q + 1) ≤ 31 := by
                have := HML.out (q + 1 + 1) (by omega) (by omega)
                unfold lenM
                split
                · omega
                · split
                  · split <;> omega
                  · omega
              generalize lenM y (q + 1) = LK at *
              have HST := Lib.hid hst
              clear hst
              generalize monthsS y (q + 1) = MK at *
              have HDK2 := Lib.hid hDK
              clear hDK
              go_wp2_with (go_at_call 57; refine (HDK2.out).mono ?_; rintro e wn ⟨rfl, hbn⟩)
              go_roundg gk
              case measure => omega
              case rel => exact ⟨q + 1 + 1, by omega, by omega, by go_num, by rw [HST.out]; go_num, HBX.out.trans (hbn.mono HBX.out.size)⟩
            | zero =>
              obtain rfl : k = m := by omega
              have hkz : ¬ (k : Int) < (k : Int) := by omega
              have HBF := Lib.hid (HBW.out.trans (HBX.out.mono HBW.out.size))
              generalize monthsS y k = MK at *
              go_upto_region 26 with fail
              have HE : Hid ((86400 * (((YY + MK : Nat) : Int) + d - 1 - 719528) + 3600 * h + 60 * ii + s : Int) = ((((YY : Int) + MK - 719528 + d - 1) * 24 + h) * 3600 + ii * 60 + s)) := Lib.hid (by omega)
              go_quiet (fail)
              go_wp2_with fail
              go_ret2
              rw [HR2.out, HE.out]
              exact ⟨rfl, below_drawn HBF.out _⟩
end Go.Proofs.YtebhiplcoioenaaGreatDoor
/- ostiaryref06.Moment: whatever comes. -/
namespace Go.Proofs.YtebhiplcoioenaaGreatDoor
open Go.RowKit

set_option maxRecDepth 100000 in
set_option maxHeartbeats 4000000 in
theorem rmom_23c (s : Bs) (w : World) (h : s.length ≠ 13) : Calls Tryz.prog 52 #[.int .i64 23, .string (bs s)] w fun e w' => e = .returned (momV none) ∧ Below w.heap.size w w' := by
  have zs := bs_size s
  have q1 : ((s.length : Int) != 13) = true := by simp; omega
  go_enter Tryz.func52, Tryz.ntmps52
  go_wp2_with fail
  go_ret2
  exact ⟨rfl, Below.refl _ _⟩
set_option maxRecDepth 100000 in
set_option maxHeartbeats 4000000 in
theorem rmom_23d (s : Bs) (w : World) (h : s.length = 13) (hn : pcS s 0 2 < 0) : Calls Tryz.prog 52 #[.int .i64 23, .string (bs s)] w fun e w' => e = .returned (momV none) ∧ Below w.heap.size w w' := by
  have zs := bs_size s
  rw [h] at zs
  have HN0 : Hid (∀ u, Calls Tryz.prog 48 #[.string ((bs s).extract 0 2)] u fun e w' => e = .returned (.int .i64 (pcS s 0 2)) ∧ u = w') := Lib.hid fun u => by
    have := number_low ((s.take 2).drop 0) u (by simp; omega)
    rw [← bs_cut] at this
    exact this.mono fun _ _ hh => ⟨hh.1, hh.2.symm⟩
  generalize pcS s 0 2 = NB at *
  clear h
  go_enter Tryz.func52, Tryz.ntmps52
  go_wp2_with (go_at_call 48; refine (HN0.out _).mono ?_; rintro e w1 ⟨rfl, rfl⟩)
  go_ret2
  exact ⟨rfl, Below.refl _ _⟩
theorem long_pre {p q : UInt8} {s : Bs} (h : pcS s 0 2 < 0) : longS (p :: q :: s) = none := by
  unfold longS
  refine if_pos (Or.inr (Or.inr (Classical.byContradiction fun hd => ?_)))
  have hd := (digS_iff _).1 (by omega : 0 ≤ digS ((p :: q :: s).take 14))
  have : 0 ≤ pcS s 0 2 := (digS_iff _).2 fun c hc => hd c (by
    have h1 := List.mem_of_mem_drop hc
    rw [show s.take 2 = (s.take 12).take 2 by rw [List.take_take]; rfl] at h1
    exact List.mem_cons_of_mem _ (List.mem_cons_of_mem _ (List.mem_of_mem_take h1)))
  omega
theorem pc_head {a b : UInt8} {r : Bs} (h : 0 ≤ pcS (a :: b :: r) 0 2) : 50 ≤ pcS (a :: b :: r) 0 2 ↔ (53 : UInt8) ≤ a := by
  have hd := (digS_iff _).1 h
  have ha := hd a (List.mem_cons_self ..)
  have hb := hd b (List.mem_cons_of_mem _ (List.mem_cons_self ..))
  have hv : pcS (a :: b :: r) 0 2 = 10 * (10 * 0 + (a.toNat - 48 : Nat)) + (b.toNat - 48 : Nat) := by
    show digF [a, b] 0 = _
    rw [digF, if_neg (by omega), digF, if_neg (by omega), digF]
  rw [hv, UInt8.le_iff_toNat_le]
  show _ ↔ 53 ≤ a.toNat
  omega
theorem rmom_any (t : Int) (ht : t = 23 ∨ t = 24) (s : Bs) (w : World) (hs : s.length ≤ SB) : Calls Tryz.prog 52 #[.int .i64 t, .string (bs s)] w fun e w' => e = .returned (momV (momentS t s)) ∧ Below w.heap.size w w' := by
  rcases ht with rfl | rfl
  · unfold momentS
    rw [if_pos rfl]
    by_cases h13 : s.length = 13
    · rw [if_neg (by simpa using h13)]
      match s, h13 with
      | a :: b :: r, h13 =>
        by_cases hn : pcS (a :: b :: r) 0 2 < 0
        · have := rmom_23d (a :: b :: r) w h13 hn
          rw [show longS ((if (53 : UInt8) ≤ (a :: b :: r).headD 0 then [49, 57] else [50, 48]) ++ (a :: b :: r)) = none by split <;> exact long_pre hn]
          exact this
        · have hi := pc_head (a := a) (b := b) (r := r) (by omega)
          by_cases hq : 50 ≤ pcS (a :: b :: r) 0 2
          · rw [if_pos (by exact hi.1 hq)]
            exact rmom_23a (a :: b :: r) w h13 (by omega) hq
          · rw [if_neg (by exact fun h => hq (hi.2 h))]
            exact rmom_23b (a :: b :: r) w h13 (by omega) hq
    · rw [if_pos h13]
      exact rmom_23c s w h13
  · exact rmom_24 s w hs
end Go.Proofs.YtebhiplcoioenaaGreatDoor
