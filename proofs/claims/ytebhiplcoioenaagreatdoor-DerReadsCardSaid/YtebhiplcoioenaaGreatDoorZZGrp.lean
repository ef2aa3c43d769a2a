/- der.groups: the walk. -/
import Derived.Test.YtebhiplcoioenaaGreatDoorZZNum
import Derived.Deep.QuietTactic
import Derived.BigQuiet
namespace Go.Proofs.YtebhiplcoioenaaGreatDoor
open Go.RowKit

def GrpPost (o : Option (List Nat)) (w : World) : Ending → World → Prop := fun e w' => (∃ v, e = .returned (.tuple #[v, .bool o.isSome]) ∧ ∀ l, o = some l → OwnI w.heap.size w' v l) ∧ Below w.heap.size w w'
theorem and_127 (x : UInt8) : bits BinOp.and IntKind.u8 ((x.toNat : Nat) : Int) 127 = ((x.toNat % 128 : Nat) : Int) :=
  every_byte (P := fun x => bits BinOp.and IntKind.u8 ((x.toNat : Nat) : Int) 127 = ((x.toNat % 128 : Nat) : Int)) (by decide +kernel) x
theorem sept_or (n v : Nat) (hn : n < 34359738368) (hv : v < 128) : bits BinOp.or IntKind.i64 ((n : Int) * 128) (v : Int) = ((n * 128 + v : Nat) : Int) := by
  have h0 : ((n : Int) * 128) = ((n * 128 : Nat) : Int) := by omega
  have h1 : (BitVec.ofInt 64 ((n * 128 : Nat) : Int)).toNat = n * 128 := by
    rw [BitVec.ofInt_natCast, BitVec.toNat_ofNat]; exact Nat.mod_eq_of_lt (by omega)
  have h2 : (BitVec.ofInt 64 (v : Int)).toNat = v := by
    rw [BitVec.ofInt_natCast, BitVec.toNat_ofNat]; exact Nat.mod_eq_of_lt (by omega)
  have h3 : n * 128 ||| v = n * 128 + v := by
    rw [Nat.mul_comm]
    exact (Nat.two_pow_add_eq_or_of_lt (i := 7) hv n).symm
  rw [h0]
  show IntKind.i64.wrap ((BitVec.ofInt 64 ((n * 128 : Nat) : Int) ||| BitVec.ofInt 64 (v : Int)).toNat : Int) = _
  rw [BitVec.toNat_or, h1, h2, h3]
  rw [IntKind.wrap_i64]
  omega
theorem own_nil (B : Nat) (w : World) : OwnI B w (.slice none 0 0) [] := ⟨rfl, Or.inl ⟨rfl, rfl⟩⟩
theorem own_len {B : Nat} {w : World} {v : Value} {l : List Nat} (h : OwnI B w v l) : ∃ ad c, v = .slice ad l.length c := by
  obtain ⟨_, ⟨h1, h2⟩ | ⟨g, cap, cur, hv, r⟩⟩ := h
  · exact ⟨none, 0, by rw [h1, h2]⟩
  · exact ⟨_, _, hv⟩
def grpO : Option (List Nat) → Option (List Nat)
  | some (x :: l) => some (x :: l)
  | _ => none
theorem groups_map (s : Bs) : groupsS s = grpO (grpS s 0 0) := by
  unfold groupsS grpO
  rfl
set_option maxRecDepth 100000 in
set_option maxHeartbeats 8000000 in
theorem groups_any (s : Bs) (w : World) (hs : s.length ≤ 1048576) : Calls Tryz.prog 40 #[.string (bs s)] w (GrpPost (groupsS s) w) := by
  have zs := bs_size s
  obtain ⟨G, hG⟩ : ∃ G, G = grpS s 0 0 := ⟨_, rfl⟩
  have HG := Lib.hid hG
  have HGS : Hid (groupsS s = grpO G) := Lib.hid (by rw [hG]; exact groups_map s)
  clear hG
  go_enter Tryz.func40, Tryz.ntmps40
  go_wp2
  go_loopg [4, 5, 6, 7, 10] s.length (fun gg s4 s5 s6 _ s10 wr => ∃ (i n many : Nat) (l : List Nat) (v : Value), i ≤ s.length ∧ gg = s.length - i ∧ s4 = v ∧ s5 = .int .i64 n ∧ s6 = .int .i64 many ∧ s10 = .int .i64 i ∧
    Aside (OwnI w.heap.size wr v l) ∧ Aside (G = (grpS (s.drop i) n many).map (l ++ ·)) ∧ Aside (n < 128 ^ many ∧ many ≤ 5 ∧ l.length ≤ i) ∧ Aside (Below w.heap.size w wr))
  case atStart => exact ⟨0, 0, 0, [], _, by omega, rfl, rfl, rfl, rfl, rfl, own_nil _ _, (show G = (grpS (s.drop 0) 0 0).map (([] : List Nat) ++ ·) by rw [HG.out]; simp), ⟨by decide, by decide, by decide⟩, Below.refl _ _⟩
  case round =>
    obtain ⟨i, n, many, l, v, hi, rfl, rfl, rfl, rfl, rfl, HO, HA, HN, HB⟩ := hrel
    by_cases hlt : i < s.length
    · have hltz : (i : Int) < (s.length : Int) := by omega
      obtain ⟨x, hx⟩ : ∃ x, s[i]? = some x := ⟨s[i], List.getElem?_eq_getElem hlt⟩
      have hg := bs_get s i x hx
      have hxl := x.toNat_lt
      have hdr : s.drop i = x :: s.drop (i + 1) := by
        obtain ⟨hi2, e⟩ := List.getElem?_eq_some_iff.1 hx
        rw [← e]; exact List.drop_eq_getElem_cons hi2
      have hst : grpS (s.drop i) n many = if (many = 0 ∧ x = 128) ∨ many = 5 then none
          else if x.toNat < 128 then (if 2147483647 < n * 128 + x.toNat % 128 then none else (grpS (s.drop (i + 1)) 0 0).map ((n * 128 + x.toNat % 128) :: ·))
          else grpS (s.drop (i + 1)) (n * 128 + x.toNat % 128) (many + 1) := by rw [hdr, grpS]
      have hx128 : ((x.toNat : Int) == 128) = decide (x = 128) := by
        by_cases hq : x = 128
        · subst hq; rfl
        · have : x.toNat ≠ 128 := fun e => hq (by rw [← u8_back x, e]; rfl)
          rw [decide_eq_false hq]; simp; omega
      by_cases hbad : (many = 0 ∧ x = 128) ∨ many = 5
      · have HR : Hid (groupsS s = none) := Lib.hid (by rw [HGS.out, HA.out, hst, if_pos hbad]; rfl)
        have hm : (((many : Int) == 0) = true ∧ x = 128) ∨ (((many : Int) == 0) = false ∧ ((many : Int) == 5) = true) := by
          rcases hbad with ⟨h1, h2⟩ | h1
          · exact Or.inl ⟨by rw [h1]; rfl, h2⟩
          · exact Or.inr ⟨by rw [h1]; rfl, by rw [h1]; rfl⟩
        clear hst hdr hx hbad
        rcases hm with ⟨h1, rfl⟩ | ⟨h1, h2⟩
        all_goals
          go_wp2
          go_ret2
          rw [HR.out]
          exact ⟨⟨_, rfl, fun l hl => by cases hl⟩, HB.out⟩
      · have hm5 : ((many : Int) == 5) = false := by simp; omega
        have hm0 : (((many : Int) == 0) = true ∧ ((x.toNat : Int) == 128) = false) ∨ ((many : Int) == 0) = false := by
          by_cases h : many = 0
          · left; exact ⟨by rw [h]; rfl, by rw [hx128, decide_eq_false (fun hq => hbad (Or.inl ⟨h, hq⟩))]⟩
          · right; simp; omega
        have hmlt : many < 5 := by have := HN.out.2.1; omega
        have hn35 : n < 268435456 := Nat.lt_of_lt_of_le HN.out.1 (by
          have := Nat.pow_le_pow_right (n := 128) (by decide) (show many ≤ 4 by omega)
          exact this)
        obtain ⟨n2, hn2⟩ : ∃ n2, n2 = n * 128 + x.toNat % 128 := ⟨_, rfl⟩
        have ha := and_127 x
        have ho := sept_or n (x.toNat % 128) (by omega) (Nat.mod_lt _ (by decide))
        rw [← hn2] at ho hst
        have hn2b : n2 < 34359738368 := by omega
        rw [if_neg hbad] at hst
        have HN2 : Hid (n2 < 128 ^ (many + 1)) := Lib.hid (by
          have := HN.out.1
          rw [Nat.pow_succ, hn2]
          omega)
        generalize hmod : x.toNat % 128 = xm at *
        have hxm : xm < 128 := by rw [← hmod]; exact Nat.mod_lt _ (by decide)
        clear hmod hbad hx128
        by_cases hx7 : x.toNat < 128
        · have hx7z : (x.toNat : Int) < 128 := by omega
          rw [if_pos hx7] at hst
          by_cases hbig : 2147483647 < n2
          · have hbz : (2147483647 : Int) < n2 := by omega
            have HR : Hid (groupsS s = none) := Lib.hid (by rw [HGS.out, HA.out, hst, if_pos hbig]; rfl)
            clear hst hdr hx hn2
            rcases hm0 with ⟨h1, h2⟩ | h1
            all_goals
              go_wp2
              go_ret2
              rw [HR.out]
              exact ⟨⟨_, rfl, fun l hl => by cases hl⟩, HB.out⟩
          · have hbz : ¬ (2147483647 : Int) < n2 := by omega
            rw [if_neg hbig] at hst
            have HR : Hid (G = (grpS (s.drop (i + 1)) 0 0).map ((l ++ [n2]) ++ ·)) := Lib.hid (by
              rw [HA.out, hst, Option.map_map]
              congr 1
              funext t; simp)
            have hk : l.length + 1 ≤ 3000000 := by have := HN.out.2.2; omega
            have HLL : Hid ((l ++ [n2]).length ≤ i + 1) := Lib.hid (by rw [List.length_append]; have := HN.out.2.2; simp; omega)
            obtain ⟨ad, cp, hv⟩ := own_len HO.out
            have HO2 := Lib.hid HO.out
            clear hst hdr hx hn2 hbig HO
            rcases hm0 with ⟨h1, h2⟩ | h1
            all_goals
              go_wp2_with (at_builtin; refine wp_snocI rfl _ _ (by rfl) n2 (by rfl) (by rfl) HO2.out (Nat.le_refl _) HB.out hk ?_; intro v' w2 hO2 hB2)
              go_roundg (s.length - (i + 1))
              case measure => omega
              case rel => exact ⟨i + 1, 0, 0, l ++ [n2], v', by omega, rfl, rfl, rfl, rfl, by go_num, hO2, HR.out, ⟨by decide, by decide, HLL.out⟩, hB2⟩
        · have hx7z : ¬ (x.toNat : Int) < 128 := by omega
          rw [if_neg hx7] at hst
          have HR : Hid (G = (grpS (s.drop (i + 1)) n2 (many + 1)).map (l ++ ·)) := Lib.hid (by rw [HA.out, hst])
          have HNN := Lib.hid (show many + 1 ≤ 5 ∧ l.length ≤ i + 1 from ⟨by omega, by have := HN.out.2.2; omega⟩)
          clear hst hdr hx hn2
          rcases hm0 with ⟨h1, h2⟩ | h1
          all_goals
            go_wp2
            go_roundg (s.length - (i + 1))
            case measure => omega
            case rel => exact ⟨i + 1, n2, many + 1, l, _, by omega, rfl, rfl, rfl, by go_num, by go_num, HO.out, HR.out, ⟨HN2.out, HNN.out.1, HNN.out.2⟩, HB.out⟩
    · have hltz : ¬ (i : Int) < (s.length : Int) := by omega
      have HE : Hid (G = (if many = 0 then some l else none)) := Lib.hid (by
        rw [HA.out, List.drop_of_length_le (by omega), grpS]
        split <;> simp)
      obtain ⟨ad, cp, hv⟩ := own_len HO.out
      have HO2 := Lib.hid HO.out
      clear HO
      subst hv
      by_cases hl0 : l.length = 0
      · have hlz : ¬ (0 : Int) < (l.length : Int) := by omega
        have HR : Hid (groupsS s = none) := Lib.hid (by
          rw [HGS.out, HE.out, List.eq_nil_of_length_eq_zero hl0]
          split <;> rfl)
        go_wp2
        go_ret2
        rw [HR.out]
        exact ⟨⟨_, rfl, fun l hl => by cases hl⟩, HB.out⟩
      · have hlz : (0 : Int) < (l.length : Int) := by omega
        by_cases hm : many = 0
        · subst hm
          have HR : Hid (groupsS s = some l) := Lib.hid (by
            rw [HGS.out, HE.out, if_pos rfl]
            cases l with
            | nil => exact absurd rfl hl0
            | cons a r => rfl)
          go_wp2
          go_ret2
          rw [HR.out]
          exact ⟨⟨_, rfl, fun l hl => by cases hl; exact HO2.out⟩, HB.out⟩
        · have hmz : ((many : Int) == 0) = false := by simp; omega
          have HR : Hid (groupsS s = none) := Lib.hid (by rw [HGS.out, HE.out, if_neg hm]; rfl)
          go_wp2
          go_ret2
          rw [HR.out]
          exact ⟨⟨_, rfl, fun l hl => by cases hl⟩, HB.out⟩
end Go.Proofs.YtebhiplcoioenaaGreatDoor
