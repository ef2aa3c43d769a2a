/- LRefK LRefTk LRefP LRefP2 LRefPb, in one text. -/
import Derived.Test.YthpagppipifgeaaGreatDoorZLL
import Derived.Deep.Light
import Derived.Test.YthpagppipifgeaaGreatDoorZLH
import Derived.Test.YthpagppipifgeaaGreatDoorZLText2
import Derived.Maps.AppendAt
import Derived.Test.YthpagppipifgeaaGreatDoorZLLawKit
import Derived.Deep.RegionLaw
import Derived.Test.YthpagppipifgeaaGreatDoorZLOne
/- ostiaryref20.letter, is: the walks; tokens in memory. -/
namespace Go.Proofs.YthpagppipifgeaaGreatDoor
open Go.RowKit

def RowT (w : World) : List Tok → Nat → Nat → Prop
  | [], _, _ => True
  | x :: r, b, f => (w.cell? ⟨b, f, none⟩ = some (.string (bs x.1)) ∧ w.cell? ⟨b, f + 1, none⟩ = some (.bool x.2)) ∧ RowT w r b (f + 2)
theorem RowT.below {w w' : World} {B : Nat} (hb : Below B w w') (hB : w.heap.size ≤ B) : ∀ {l : List Tok} {b f : Nat}, RowT w l b f → RowT w' l b f := by
  intro l
  induction l with
  | nil => exact fun _ => trivial
  | cons x r ih =>
    rintro b f ⟨⟨h0, h1⟩, hn⟩
    have hlt : b < w.heap.size := World.block_lt_of_cell? w _ h0
    have hc : ∀ i, w'.cell? ⟨b, f + i, none⟩ = w.cell? ⟨b, f + i, none⟩ := fun i => hb.cell (p := ⟨b, f + i, none⟩) (Nat.lt_of_lt_of_le hlt hB)
    exact ⟨⟨(hc 0).trans h0, (hc 1).trans h1⟩, ih hn⟩
structure SlT (w : World) (l : List Tok) (ad : Option Addr) (c : Nat) : Prop where
  le : l.length ≤ c
  cm : c ≤ MX
  ln : l.length ≤ 1024 ∧ ∀ t, t ∈ l → t.1.length ≤ 1024
  at_ : ∃ b f, (ad = some ⟨b, f, none⟩ ∨ (ad = ad ∧ l.length = 0)) ∧ RowT w l b f
theorem SlT.grown {w w' : World} {l : List Tok} {ad : Option Addr} {c : Nat} (h : SlT w l ad c) (hb : Below w.heap.size w w') : SlT w' l ad c := by
  obtain ⟨h1, h2, h5, b, f, h3, h4⟩ := h
  exact ⟨h1, h2, h5, b, f, h3, h4.below hb (Nat.le_refl _)⟩
theorem isT_eq (wd : List UInt8) (x : Tok) (r : List Tok) : isT wd (x :: r) = (!x.2 && decide (x.1 = wd)) := by
  obtain ⟨a, q⟩ := x
  unfold isT
  cases q
  · by_cases h : a = wd <;> simp [h]
  · simp
set_option maxRecDepth 100000 in
theorem is_any (ts : List Tok) (ad : Option Addr) (c : Nat) (wd : ByteArray) (w : World) (hs : SlT w ts ad c) :
    Calls Tryz.prog 65 #[.slice ad ts.length c, .string wd] w fun e w' => e = .returned (.bool (isT wd.data.toList ts)) ∧ w' = w := by
  have hMX := MX_eq
  obtain ⟨hle, hcm, _, b, f, had, hrow⟩ := hs
  have hlm : ts.length ≤ MX := Nat.le_trans hle hcm
  cases ts with
  | nil =>
    clear had hrow
    go_enter Tryz.func65, Tryz.ntmps65
    go_wp2_with fail
    go_ret
    exact ⟨rfl, rfl⟩
  | cons x r =>
    obtain ⟨a, q⟩ := x
    obtain rfl : ad = some ⟨b, f, none⟩ := by rcases had with h | ⟨_, h⟩; exact h; simp at h
    obtain ⟨⟨h0, h1⟩, _⟩ := hrow
    simp only at h0 h1
    have hl0 : (0 : Int) < ((((a, q) :: r : List Tok).length : Nat) : Int) := by simp only [List.length_cons]; omega
    rw [isT_eq]
    simp only
    generalize ((a, q) :: r : List Tok).length = L at *
    obtain ⟨R, hR⟩ : ∃ R, R = (!q && decide (a = wd.data.toList)) := ⟨_, rfl⟩
    rw [← hR]
    have HR := Lib.hid hR
    clear hR
    cases q with
    | true =>
      have HE : Hid (false = R) := Lib.hid HR.out.symm
      clear HR
      go_enter Tryz.func65, Tryz.ntmps65
      go_wp2_with fail
      go_ret
      exact ⟨congrArg (fun b : Bool => Ending.returned (Value.bool b)) HE.out, rfl⟩
    | false =>
      by_cases he : a = wd.data.toList
      · have heq : ((bs a).toList == wd.toList) = true := by rw [bs_list, dl, he]; simp
        have HE : Hid (true = R) := Lib.hid (by rw [HR.out, he]; simp)
        clear HR he
        go_enter Tryz.func65, Tryz.ntmps65
        go_wp2_with fail
        go_ret
        exact ⟨congrArg (fun b : Bool => Ending.returned (Value.bool b)) HE.out, rfl⟩
      · have heq : ((bs a).toList == wd.toList) = false := by rw [bs_list, dl]; simp [he]
        have HE : Hid (false = R) := Lib.hid (by rw [HR.out]; simp [he])
        clear HR he
        go_enter Tryz.func65, Tryz.ntmps65
        go_wp2_with fail
        go_ret
        exact ⟨congrArg (fun b : Bool => Ending.returned (Value.bool b)) HE.out, rfl⟩
theorem wdC_iff (x : UInt8) : wdC x = true ↔ ((97 ≤ x.toNat ∧ x.toNat ≤ 122) ∨ (48 ≤ x.toNat ∧ x.toNat ≤ 57) ∨ x.toNat = 95 ∨ x.toNat = 45) ∨ x.toNat = 46 := by
  unfold wdC nmC
  simp [Bool.or_eq_true, or_assoc]
set_option maxRecDepth 100000 in
theorem letter_any (x : UInt8) (w : World) : Calls Tryz.prog 63 #[.int .u8 (x.toNat : Nat)] w fun e w' => e = .returned (.bool (wdC x)) ∧ w' = w := by
  have hx : x.toNat < 256 := x.toNat_lt
  obtain ⟨R, hR⟩ : ∃ R, R = wdC x := ⟨_, rfl⟩
  rw [← hR]
  have hw := wdC_iff x
  rw [← hR] at hw
  have HW := Lib.hid hw
  clear hR hw
  generalize x.toNat = m at *
  by_cases h97 : 97 ≤ m
  · have zh97 : (97 : Int) ≤ (m : Int) := by omega
    by_cases h122 : m ≤ 122
    · have zh122 : (m : Int) ≤ 122 := by omega
      have HE : Hid (true = R) := Lib.hid (by exact (HW.out.2 (by omega)).symm)
      clear HW
      go_enter Tryz.func63, Tryz.ntmps63
      go_wp2_with fail
      go_ret
      exact ⟨congrArg (fun b : Bool => Ending.returned (Value.bool b)) HE.out, rfl⟩
    · have zh122 : ¬ (m : Int) ≤ 122 := by omega
      by_cases h48 : 48 ≤ m
      · have zh48 : (48 : Int) ≤ (m : Int) := by omega
        by_cases h57 : m ≤ 57
        · have zh57 : (m : Int) ≤ 57 := by omega
          have HE : Hid (true = R) := Lib.hid (by exact (HW.out.2 (by omega)).symm)
          clear HW
          go_enter Tryz.func63, Tryz.ntmps63
          go_wp2_with fail
          go_ret
          exact ⟨congrArg (fun b : Bool => Ending.returned (Value.bool b)) HE.out, rfl⟩
        · have zh57 : ¬ (m : Int) ≤ 57 := by omega
          by_cases e95 : m = 95
          · have ze95 : ((m : Int) == 95) = true := by rw [e95]; rfl
            have HE : Hid (true = R) := Lib.hid (by exact (HW.out.2 (by omega)).symm)
            clear HW
            go_enter Tryz.func63, Tryz.ntmps63
            go_wp2_with fail
            go_ret
            exact ⟨congrArg (fun b : Bool => Ending.returned (Value.bool b)) HE.out, rfl⟩
          · have ze95 : ((m : Int) == 95) = false := by simp; omega
            by_cases e45 : m = 45
            · have ze45 : ((m : Int) == 45) = true := by rw [e45]; rfl
              have HE : Hid (true = R) := Lib.hid (by exact (HW.out.2 (by omega)).symm)
              clear HW
              go_enter Tryz.func63, Tryz.ntmps63
              go_wp2_with fail
              go_ret
              exact ⟨congrArg (fun b : Bool => Ending.returned (Value.bool b)) HE.out, rfl⟩
            · have ze45 : ((m : Int) == 45) = false := by simp; omega
              by_cases e46 : m = 46
              · have ze46 : ((m : Int) == 46) = true := by rw [e46]; rfl
                have HE : Hid (true = R) := Lib.hid (by exact (HW.out.2 (by omega)).symm)
                clear HW
                go_enter Tryz.func63, Tryz.ntmps63
                go_wp2_with fail
                go_ret
                exact ⟨congrArg (fun b : Bool => Ending.returned (Value.bool b)) HE.out, rfl⟩
              · have ze46 : ((m : Int) == 46) = false := by simp; omega
                have HE : Hid (false = R) := Lib.hid (by cases hR : R; rfl; exact absurd (HW.out.1 hR) (by omega))
                clear HW
                go_enter Tryz.func63, Tryz.ntmps63
                go_wp2_with fail
                go_ret
                exact ⟨congrArg (fun b : Bool => Ending.returned (Value.bool b)) HE.out, rfl⟩
      · have zh48 : ¬ (48 : Int) ≤ (m : Int) := by omega
        by_cases e95 : m = 95
        · have ze95 : ((m : Int) == 95) = true := by rw [e95]; rfl
          have HE : Hid (true = R) := Lib.hid (by exact (HW.out.2 (by omega)).symm)
          clear HW
          go_enter Tryz.func63, Tryz.ntmps63
          go_wp2_with fail
          go_ret
          exact ⟨congrArg (fun b : Bool => Ending.returned (Value.bool b)) HE.out, rfl⟩
        · have ze95 : ((m : Int) == 95) = false := by simp; omega
          by_cases e45 : m = 45
          · have ze45 : ((m : Int) == 45) = true := by rw [e45]; rfl
            have HE : Hid (true = R) := Lib.hid (by exact (HW.out.2 (by omega)).symm)
            clear HW
            go_enter Tryz.func63, Tryz.ntmps63
            go_wp2_with fail
            go_ret
            exact ⟨congrArg (fun b : Bool => Ending.returned (Value.bool b)) HE.out, rfl⟩
          · have ze45 : ((m : Int) == 45) = false := by simp; omega
            by_cases e46 : m = 46
            · have ze46 : ((m : Int) == 46) = true := by rw [e46]; rfl
              have HE : Hid (true = R) := Lib.hid (by exact (HW.out.2 (by omega)).symm)
              clear HW
              go_enter Tryz.func63, Tryz.ntmps63
              go_wp2_with fail
              go_ret
              exact ⟨congrArg (fun b : Bool => Ending.returned (Value.bool b)) HE.out, rfl⟩
            · have ze46 : ((m : Int) == 46) = false := by simp; omega
              have HE : Hid (false = R) := Lib.hid (by cases hR : R; rfl; exact absurd (HW.out.1 hR) (by omega))
              clear HW
              go_enter Tryz.func63, Tryz.ntmps63
              go_wp2_with fail
              go_ret
              exact ⟨congrArg (fun b : Bool => Ending.returned (Value.bool b)) HE.out, rfl⟩
  · have zh97 : ¬ (97 : Int) ≤ (m : Int) := by omega
    by_cases h48 : 48 ≤ m
    · have zh48 : (48 : Int) ≤ (m : Int) := by omega
      by_cases h57 : m ≤ 57
      · have zh57 : (m : Int) ≤ 57 := by omega
        have HE : Hid (true = R) := Lib.hid (by exact (HW.out.2 (by omega)).symm)
        clear HW
        go_enter Tryz.func63, Tryz.ntmps63
        go_wp2_with fail
        go_ret
        exact ⟨congrArg (fun b : Bool => Ending.returned (Value.bool b)) HE.out, rfl⟩
      · have zh57 : ¬ (m : Int) ≤ 57 := by omega
        by_cases e95 : m = 95
        · have ze95 : ((m : Int) == 95) = true := by rw [e95]; rfl
          have HE : Hid (true = R) := Lib.hid (by exact (HW.out.2 (by omega)).symm)
          clear HW
          go_enter Tryz.func63, Tryz.ntmps63
          go_wp2_with fail
          go_ret
          exact ⟨congrArg (fun b : Bool => Ending.returned (Value.bool b)) HE.out, rfl⟩
        · have ze95 : ((m : Int) == 95) = false := by simp; omega
          by_cases e45 : m = 45
          · have ze45 : ((m : Int) == 45) = true := by rw [e45]; rfl
            have HE : Hid (true = R) := Lib.hid (by exact (HW.out.2 (by omega)).symm)
            clear HW
            go_enter Tryz.func63, Tryz.ntmps63
            go_wp2_with fail
            go_ret
            exact ⟨congrArg (fun b : Bool => Ending.returned (Value.bool b)) HE.out, rfl⟩
          · have ze45 : ((m : Int) == 45) = false := by simp; omega
            by_cases e46 : m = 46
            · have ze46 : ((m : Int) == 46) = true := by rw [e46]; rfl
              have HE : Hid (true = R) := Lib.hid (by exact (HW.out.2 (by omega)).symm)
              clear HW
              go_enter Tryz.func63, Tryz.ntmps63
              go_wp2_with fail
              go_ret
              exact ⟨congrArg (fun b : Bool => Ending.returned (Value.bool b)) HE.out, rfl⟩
            · have ze46 : ((m : Int) == 46) = false := by simp; omega
              have HE : Hid (false = R) := Lib.hid (by cases hR : R; rfl; exact absurd (HW.out.1 hR) (by omega))
              clear HW
              go_enter Tryz.func63, Tryz.ntmps63
              go_wp2_with fail
              go_ret
              exact ⟨congrArg (fun b : Bool => Ending.returned (Value.bool b)) HE.out, rfl⟩
    · have zh48 : ¬ (48 : Int) ≤ (m : Int) := by omega
      by_cases e95 : m = 95
      · have ze95 : ((m : Int) == 95) = true := by rw [e95]; rfl
        have HE : Hid (true = R) := Lib.hid (by exact (HW.out.2 (by omega)).symm)
        clear HW
        go_enter Tryz.func63, Tryz.ntmps63
        go_wp2_with fail
        go_ret
        exact ⟨congrArg (fun b : Bool => Ending.returned (Value.bool b)) HE.out, rfl⟩
      · have ze95 : ((m : Int) == 95) = false := by simp; omega
        by_cases e45 : m = 45
        · have ze45 : ((m : Int) == 45) = true := by rw [e45]; rfl
          have HE : Hid (true = R) := Lib.hid (by exact (HW.out.2 (by omega)).symm)
          clear HW
          go_enter Tryz.func63, Tryz.ntmps63
          go_wp2_with fail
          go_ret
          exact ⟨congrArg (fun b : Bool => Ending.returned (Value.bool b)) HE.out, rfl⟩
        · have ze45 : ((m : Int) == 45) = false := by simp; omega
          by_cases e46 : m = 46
          · have ze46 : ((m : Int) == 46) = true := by rw [e46]; rfl
            have HE : Hid (true = R) := Lib.hid (by exact (HW.out.2 (by omega)).symm)
            clear HW
            go_enter Tryz.func63, Tryz.ntmps63
            go_wp2_with fail
            go_ret
            exact ⟨congrArg (fun b : Bool => Ending.returned (Value.bool b)) HE.out, rfl⟩
          · have ze46 : ((m : Int) == 46) = false := by simp; omega
            have HE : Hid (false = R) := Lib.hid (by cases hR : R; rfl; exact absurd (HW.out.1 hR) (by omega))
            clear HW
            go_enter Tryz.func63, Tryz.ntmps63
            go_wp2_with fail
            go_ret
            exact ⟨congrArg (fun b : Bool => Ending.returned (Value.bool b)) HE.out, rfl⟩
end Go.Proofs.YthpagppipifgeaaGreatDoor
/- ostiaryref20.tokens: the walk. -/
namespace Go.Proofs.YthpagppipifgeaaGreatDoor
open Go.RowKit

/-- Tokens as cells. -/
def tcl (l : List Tok) : List Value := l.flatMap fun x => [.string (bs x.1), .bool x.2]
theorem tcl_snoc (l : List Tok) (x : Tok) : tcl (l ++ [x]) = tcl l ++ [.string (bs x.1), .bool x.2] := by simp [tcl]
theorem tcl_row {w : World} {l : List Tok} : ∀ {b f : Nat}, (∀ j u, (tcl l)[j]? = some u → w.cell? ⟨b, f + j, none⟩ = some u) → RowT w l b f := by
  induction l with
  | nil => exact fun _ => trivial
  | cons x r ih =>
    intro b f hc
    refine ⟨⟨hc 0 _ rfl, hc 1 _ rfl⟩, ih fun j u hj => ?_⟩
    rw [show f + 2 + j = f + (j + 2) by omega]
    exact hc (j + 2) u hj
theorem tok_slt {wr : World} {B : Nat} {v : Value} {l : List Tok} (ho : wr.ownsRow B 89 2 v l.length (tcl l)) (hln : l.length ≤ 1024 ∧ ∀ t, t ∈ l → t.1.length ≤ 1024) : ∃ ad c, v = .slice ad l.length c ∧ SlT wr l ad c := by
  obtain ⟨hl, ⟨rfl, h0⟩ | ⟨g, cap, cur, rfl, hg, hh, hn, hcm, hcs, htk⟩⟩ := ho
  · have hn : l = [] := List.eq_nil_of_length_eq_zero h0
    subst hn
    exact ⟨none, 0, rfl, Nat.le_refl _, by decide, hln, 0, 0, Or.inr ⟨rfl, rfl⟩, trivial⟩
  · refine ⟨some ⟨g, 0, none⟩, cap, rfl, hn, hcm, hln, g, 0, Or.inl rfl, tcl_row (fun j u hj => ?_)⟩
    have hj2 := hj
    rw [← htk, List.getElem?_take] at hj2
    split at hj2
    · simp only [World.cell?, hh, Nat.zero_add]
      simpa using hj2
    · cases hj2
theorem info_tok : (Tryz.prog.info? 89).map (fun i => (i.zero, i.size, i.bytes)) = some (some (.agg #[.string ⟨#[]⟩, .bool false]), 2, 24) := by kernel_rfl
theorem tok_empty {w : World} : (w.alloc (.cells #[] 89)).ownsRow w.heap.size 89 2 (.slice (some ⟨w.heap.size, 0, none⟩) 0 0) 0 [] :=
  ⟨rfl, Or.inr ⟨w.heap.size, 0, #[], rfl, Nat.le_refl _, heap_alloc_new _ _, Nat.le_refl _, Nat.zero_le _, rfl, rfl⟩⟩
/-- A token behind one's own, as a step. -/
theorem wp_tok {w w1 : World} {ops : Array Oper} {rest : List Oper} {o : Oper} {a : Act} {Q : Exit → Act → World → Prop} (hgd : o.guard = none) (s x : Operand) (ho : o.op = .call { callee := .builtin .append, args := #[s, x], argTypes := #[58, 58] })
    {v : Value} {acc : List Tok} (t : Tok) (hsv : a.eval s = v) (hxv : a.eval x = .slice (some ⟨w1.heap.size, 0, none⟩) 1 1) (hO : w1.ownsRow w.heap.size 89 2 v acc.length (tcl acc)) (hb : Below w.heap.size w w1) (hk : acc.length + 1 ≤ 3000)
    (h : ∀ v' w2, w2.ownsRow w.heap.size 89 2 v' (acc ++ [t]).length (tcl (acc ++ [t])) → Below w.heap.size w w2 → wpList Tryz.prog ops Q rest (a.put o.dst v') w2) : wpList Tryz.prog ops Q (o :: rest) a (w1.alloc (.cells #[.string (bs t.1), .bool t.2] 89)) := by
  obtain ⟨i0, hi, hz0, hz1, hz2⟩ := info_parts info_tok
  have hnew := heap_alloc_new w1 (.cells #[.string (bs t.1), .bool t.2] 89)
  have hbs := hb.size
  obtain ⟨v', w2, hr, hown, hgr, _, hat⟩ := run_append_own_at (P := Tryz.prog) (w1.alloc (.cells #[.string (bs t.1), .bool t.2] 89)) w.heap.size 58 o.type 89 i0 (.agg #[.string ⟨#[]⟩, .bool false]) 2 24 Tryz.underlying58 hi hz0 hz1 hz2 rfl (by omega) v acc.length (tcl acc) (hO.alloc _) ⟨w1.heap.size, 0, none⟩ 1 1 [.string (bs t.1), .bool t.2] rfl (fun k u hj => by
      rw [Addr.add_lit, Nat.zero_add]
      simp only [World.cell?, hnew]
      rw [if_neg (by simp)]
      simpa using hj) (fun u hu => by simp at hu; rcases hu with rfl | rfl <;> rfl) (by unfold maxLen; omega) (by omega) (by simp; omega)
  refine wpList_plain hgd fun K hK => ?_
  unfold Oper.wp
  simp only [execOp, ho, resolve, invoke, builtin, Sem.run_bind, Sem.run_pure, Result.andThen_ok, List.map_toArray, List.map_cons, List.map_nil, hsv, hxv, hr]
  refine hK _ _ (h v' w2 ?_ ?_)
  · rw [List.length_append, tcl_snoc]; exact hown
  · exact (hb.alloc hbs _).grown hgr (by simp; omega) (fun q hq => (hO.lt q hq).1)
theorem drop_cons {l : List UInt8} {i : Nat} {x : UInt8} (hx : l[i]? = some x) : l.drop i = x :: l.drop (i + 1) := by
  obtain ⟨hi, rfl⟩ := List.getElem?_eq_some_iff.1 hx
  exact List.drop_eq_getElem_cons hi
theorem ne_int {x c : UInt8} (h : ¬ x = c) : ((x.toNat : Int) == (c.toNat : Int)) = false := by
  simp only [beq_eq_false_iff_ne, ne_eq, Int.natCast_inj]
  exact fun e => h (UInt8.toNat_inj.1 e)
theorem eq_int {x c : UInt8} (h : x = c) : ((x.toNat : Int) == (c.toNat : Int)) = true := by rw [h]; simp
def TokPost (s : List UInt8) (w : World) : Ending → World → Prop := fun e w' =>
  (if (TK s).2 = true then (∃ ad c, e = .returned (.tuple #[.slice ad (TK s).1.length c, .bool true]) ∧ SlT w' (TK s).1 ad c) else e = .returned (.tuple #[.slice none 0 0, .bool false])) ∧ Below w.heap.size w w'
theorem tok_fell {s : List UInt8} {w w' : World} (h : (TK s).2 = false) (hb : Below w.heap.size w w') : TokPost s w (.returned (.tuple #[.slice none 0 0, .bool false])) w' :=
  ⟨by rw [if_neg (by rw [h]; decide)], hb⟩
set_option maxRecDepth 100000 in
set_option maxHeartbeats 8000000 in
theorem tokens_any (l : List UInt8) (w : World) (hl : l.length ≤ 1024) : Calls Tryz.prog 36 #[.string (bs l)] w (TokPost l w) := by
  have hsz := bs_size l
  have HL : Hid (∀ (x : UInt8) u, Calls Tryz.prog 63 #[.int .u8 (x.toNat : Nat)] u fun e w' => e = .returned (.bool (wdC x)) ∧ w' = u) := Lib.hid (fun x u => letter_any x u)
  have HLI : Hid (∀ (b : List UInt8) u, b.length ≤ 1024 → Calls Tryz.prog 50 #[.string (bs b)] u fun e w' => e = .returned (.bool (litB (bs b))) ∧ w' = u) := Lib.hid (fun b u hb => litR_bs b u (by have := SB_eq; omega))
  go_enter Tryz.func36, Tryz.ntmps36
  go_upto_region 3 with fail
  go_loopg [4, 5] l.length (fun gg s4 s5 wr => ∃ (i : Nat) (acc : List Tok) (v : Value), i ≤ l.length ∧ acc.length ≤ i ∧ gg = l.length - i ∧ s4 = v ∧ s5 = .int .i64 i ∧ Aside (wr.ownsRow w.heap.size 89 2 v acc.length (tcl acc)) ∧ Aside (Below w.heap.size w wr) ∧ Aside (TK l = (acc ++ (TK (l.drop i)).1, (TK (l.drop i)).2)))
  case atStart => exact ⟨0, [], _, Nat.zero_le _, Nat.le_refl _, rfl, rfl, rfl, tok_empty, b_alloc w _, rfl⟩
  case round =>
    obtain ⟨i, acc, v, hil, hai, rfl, rfl, rfl, HO, BW, HA⟩ := hrel
    by_cases hlt : i < l.length
    · have hltz : (i : Int) < (l.length : Int) := by omega
      obtain ⟨x, hx⟩ : ∃ x, l[i]? = some x := ⟨l[i], by simp [hlt]⟩
      have hgi := bs_get l i x hx
      have hcut := cut_one hx
      have hx256 : x.toNat < 256 := UInt8.toNat_lt x
      have hdr := drop_cons hx
      have HX := Lib.hid hx
      have HD := Lib.hid hdr
      clear hdr hx
      by_cases h32 : x = 32
      · have z32 : ((x.toNat : Int) == 32) = true := by rw [h32]; rfl
        have HT : Hid (TK (l.drop i) = TK (l.drop (i + 1))) := Lib.hid (by rw [HD.out, h32, TK_blank])
        clear h32
        go_wp2_with fail
        go_roundg (l.length - (i + 1))
        case measure => omega
        case rel => exact ⟨i + 1, acc, _, by omega, by omega, rfl, rfl, by go_num, HO.out, BW.out, (show TK l = _ by rw [← HT.out]; exact HA.out)⟩
      have z32 : ((x.toNat : Int) == 32) = false := ne_int (c := 32) h32
      by_cases hbr : x = 40 ∨ x = 41
      · have HT : Hid (TK (l.drop i) = (([x], false) :: (TK (l.drop (i + 1))).1, (TK (l.drop (i + 1))).2)) := Lib.hid (by rw [HD.out, TK_br _ hbr])
        have hk : acc.length + 1 ≤ 3000 := by omega
        have hcase : (((x.toNat : Int) == 40) = true) ∨ (((x.toNat : Int) == 40) = false ∧ ((x.toNat : Int) == 41) = true) := by
          rcases hbr with h | h
          · left; rw [h]; rfl
          · right; rw [h]; exact ⟨rfl, rfl⟩
        clear hbr h32
        rcases hcase with z40 | ⟨z40, z41⟩
        all_goals
          go_wp2_with (at_builtin; refine wp_tok rfl _ _ (by rfl) ([x], false) (by rfl) (by rfl) HO.out BW.out hk ?_; intro v' w2 hO2 hB2)
          go_roundg (l.length - (i + 1))
          case measure => omega
          case rel => exact ⟨i + 1, acc ++ [([x], false)], v', by omega, by simp; omega, rfl, rfl, by go_num, hO2, hB2, (show TK l = _ by rw [HA.out, HT.out]; simp)⟩
      have z40 : ((x.toNat : Int) == 40) = false := ne_int (c := 40) (fun e => hbr (Or.inl e))
      have z41 : ((x.toNat : Int) == 41) = false := ne_int (c := 41) (fun e => hbr (Or.inr e))
      by_cases h34 : x = 34
      · have z34 : ((x.toNat : Int) == 34) = true := by rw [h34]; rfl
        have HT : Hid (TK (l.drop i) = TK (34 :: l.drop (i + 1))) := Lib.hid (by rw [HD.out, h34])
        clear h34 h32 hbr
        go_upto_region 14 with fail
        obtain ⟨wo, rfl⟩ : ∃ wo : World, wo = wr := ⟨_, rfl⟩
        go_loopg [5, 7] (l.length - (i + 1)) (fun g2 s5 s7 wr2 => ∃ (j : Nat) (b : List UInt8), i + 1 ≤ j ∧ j ≤ l.length ∧ b.length ≤ j ∧ g2 = l.length - j ∧ s5 = .int .i64 j ∧ s7 = .string (bs b) ∧ wr2 = wo ∧ Aside (litE false (l.drop (i + 1)) [] = litE false (l.drop j) b))
        case atStart => exact ⟨i + 1, [], Nat.le_refl _, by omega, Nat.zero_le _, rfl, by go_num, rfl, rfl, rfl⟩
        case round =>
          obtain ⟨j, b, hij, hjl, hbj, rfl, rfl, rfl, rfl, HB⟩ := hrel
          have hbz := bs_size b
          by_cases hj : j < l.length
          · have hjz : (j : Int) < (l.length : Int) := by omega
            have hje : ((j : Int) == (l.length : Int)) = false := by simp only [beq_eq_false_iff_ne, ne_eq, Int.natCast_inj]; omega
            obtain ⟨y, hy⟩ : ∃ y, l[j]? = some y := ⟨l[j], by simp [hj]⟩
            have hgj := bs_get l j y hy
            have hcj := cut_one hy
            have hy256 : y.toNat < 256 := UInt8.toNat_lt y
            have HDJ := Lib.hid (drop_cons hy)
            have hz1 : (bs [y]).size = 1 := rfl
            have n1 : ¬ 9223372036854775807 < (bs b).size + 1 := by omega
            clear hy
            by_cases y34 : y = 34
            · have zy : ((y.toNat : Int) != 34) = false := by rw [y34]; rfl
              have HLT : Hid (litE false (l.drop (i + 1)) [] = some (b, l.drop (j + 1))) := Lib.hid (by rw [HB.out, HDJ.out, y34]; rfl)
              have hb1 : b.length ≤ 1024 := by omega
              cases hlb : litB (bs b) with
              | true =>
                have HTK : Hid (TK l = ((acc ++ [(b, true)]) ++ (TK (l.drop (j + 1))).1, (TK (l.drop (j + 1))).2)) := Lib.hid (by
                  rw [HA.out, HT.out, TK_some (r' := l.drop (j + 1)) (b := b) (by unfold litS; rw [HLT.out]; unfold lit2; simp only; rw [if_pos hlb])]
                  simp)
                have HLB : Hid (∀ u, Calls Tryz.prog 50 #[.string (bs b)] u fun e w' => e = .returned (.bool true) ∧ w' = u) := Lib.hid (fun u => by rw [← hlb]; exact HLI.out b u hb1)
                have hk : acc.length + 1 ≤ 3000 := by omega
                clear hlb y34
                go_wp2_with (first
                  | (go_at_call 50; refine (HLB.out _).mono ?_; rintro e w2 ⟨rfl, rfl⟩)
                  | (at_builtin; refine wp_tok rfl _ _ (by rfl) (b, true) (by rfl) (by rfl) HO.out BW.out hk ?_; intro v' w2 hO2 hB2))
                go_roundg (l.length - (j + 1))
                case measure => omega
                case rel => exact ⟨j + 1, acc ++ [(b, true)], v', by omega, by simp; omega, rfl, rfl, by go_num, hO2, hB2, HTK.out⟩
              | false =>
                have HTF : Hid ((TK l).2 = false) := Lib.hid (by
                  rw [HA.out, HT.out, TK_none (by unfold litS; rw [HLT.out]; unfold lit2; simp only; rw [if_neg (by rw [hlb]; decide)])])
                have HLB : Hid (∀ u, Calls Tryz.prog 50 #[.string (bs b)] u fun e w' => e = .returned (.bool false) ∧ w' = u) := Lib.hid (fun u => by rw [← hlb]; exact HLI.out b u hb1)
                clear hlb y34
                go_wp2_with (go_at_call 50; refine (HLB.out _).mono ?_; rintro e w2 ⟨rfl, rfl⟩)
                go_ret2
                exact tok_fell HTF.out BW.out
            have zy : ((y.toNat : Int) != 34) = true := by have := ne_int (c := 34) y34; simp only [bne]; rw [show (34 : Int) = (((34 : UInt8).toNat : Nat) : Int) from rfl, this]; rfl
            by_cases y92 : y = 92
            · have zs : ((y.toNat : Int) == 92) = true := by rw [y92]; rfl
              by_cases hj1 : j + 1 < l.length
              · have hj1z : ((j : Int) + 1 == (l.length : Int)) = false := by simp only [beq_eq_false_iff_ne, ne_eq]; omega
                have hj1l : (j : Int) + 1 < (l.length : Int) := by omega
                obtain ⟨z, hz⟩ : ∃ z, l[j + 1]? = some z := ⟨l[j + 1], by simp [hj1]⟩
                have hgz := bs_get l (j + 1) z hz
                have hcz := cut_one hz
                have hz256 : z.toNat < 256 := UInt8.toNat_lt z
                have HDZ := Lib.hid (drop_cons hz)
                have hzz : (bs [z]).size = 1 := rfl
                clear hz
                by_cases hok : z = 34 ∨ z = 92
                · have HLT : Hid (litE false (l.drop (i + 1)) [] = litE false (l.drop (j + 1 + 1)) (b ++ [z])) := Lib.hid (by
                    rw [HB.out, HDJ.out, HDZ.out, y92]
                    show (if z = 34 ∨ z = 92 then _ else _) = _
                    rw [if_pos hok])
                  have hcase : ((z.toNat : Int) != 34) = false ∨ (((z.toNat : Int) != 34) = true ∧ ((z.toNat : Int) != 92) = false) := by
                    rcases hok with h | h
                    · left; rw [h]; rfl
                    · right; rw [h]; exact ⟨rfl, rfl⟩
                  clear hok y92 y34
                  rcases hcase with u1 | ⟨u1, u2⟩
                  all_goals
                    go_wp2_with fail
                    go_roundg (l.length - (j + 1 + 1))
                    case measure => omega
                    case rel => exact ⟨j + 1 + 1, b ++ [z], by omega, by omega, by simp; omega, rfl, by go_num, by rw [bs_app2], rfl, HLT.out⟩
                · have HTF : Hid ((TK l).2 = false) := Lib.hid (by
                    rw [HA.out, HT.out, TK_none (by unfold litS; rw [HB.out, HDJ.out, HDZ.out, y92]; show lit2 (if z = 34 ∨ z = 92 then _ else _) = _; rw [if_neg hok]; rfl)])
                  have u1 : ((z.toNat : Int) != 34) = true := by have := ne_int (c := 34) (fun e => hok (Or.inl e)); simp only [bne]; rw [show (34 : Int) = (((34 : UInt8).toNat : Nat) : Int) from rfl, this]; rfl
                  have u2 : ((z.toNat : Int) != 92) = true := by have := ne_int (c := 92) (fun e => hok (Or.inr e)); simp only [bne]; rw [show (92 : Int) = (((92 : UInt8).toNat : Nat) : Int) from rfl, this]; rfl
                  clear hok y92 y34
                  go_wp2_with fail
                  go_ret2
                  exact tok_fell HTF.out BW.out
              · have hj1z : ((j : Int) + 1 == (l.length : Int)) = true := by simp only [beq_iff_eq]; omega
                have HTF : Hid ((TK l).2 = false) := Lib.hid (by
                  rw [HA.out, HT.out, TK_none (by unfold litS; rw [HB.out, HDJ.out, y92, List.drop_eq_nil_of_le (by omega)]; rfl)])
                clear y92 y34
                go_wp2_with fail
                go_ret2
                exact tok_fell HTF.out BW.out
            · have zs : ((y.toNat : Int) == 92) = false := ne_int (c := 92) y92
              have HLT : Hid (litE false (l.drop (i + 1)) [] = litE false (l.drop (j + 1)) (b ++ [y])) := Lib.hid (by
                rw [HB.out, HDJ.out]
                show (if y = 34 then _ else if y = 92 then _ else _) = _
                rw [if_neg y34, if_neg y92])
              clear y92 y34
              go_wp2_with fail
              go_roundg (l.length - (j + 1))
              case measure => omega
              case rel => exact ⟨j + 1, b ++ [y], by omega, by omega, by simp; omega, rfl, by go_num, by rw [bs_app2], rfl, HLT.out⟩
          · have hjz : ¬ (j : Int) < (l.length : Int) := by omega
            have hje : ((j : Int) == (l.length : Int)) = true := by simp only [beq_iff_eq, Int.natCast_inj]; omega
            have HTF : Hid ((TK l).2 = false) := Lib.hid (by
              rw [HA.out, HT.out, TK_none (by unfold litS; rw [HB.out, List.drop_eq_nil_of_le (by omega)]; rfl)])
            go_wp2_with fail
            go_ret2
            exact tok_fell HTF.out BW.out
      have z34 : ((x.toNat : Int) == 34) = false := ne_int (c := 34) h34
      cases hw : wdC x with
      | true =>
        have HLX : Hid (∀ u, Calls Tryz.prog 63 #[.int .u8 (x.toNat : Nat)] u fun e w' => e = .returned (.bool true) ∧ w' = u) := Lib.hid (fun u => by rw [← hw]; exact HL.out x u)
        have HT : Hid (TK (l.drop i) = (((l.drop i).takeWhile wdC, false) :: (TK ((l.drop i).dropWhile wdC)).1, (TK ((l.drop i).dropWhile wdC)).2)) := Lib.hid (by rw [HD.out, TK_word _ hw])
        have HWX := Lib.hid hw
        clear hw h32 hbr h34
        go_upto_region 27 with (go_at_call 63; refine (HLX.out _).mono ?_; rintro e w2 ⟨rfl, rfl⟩)
        obtain ⟨wo, rfl⟩ : ∃ wo : World, wo = w2 := ⟨_, rfl⟩
        go_loopg [5] (l.length - i) (fun g2 s5 wr2 => ∃ (j : Nat), i ≤ j ∧ j ≤ l.length ∧ g2 = l.length - j ∧ s5 = .int .i64 j ∧ wr2 = wo ∧ Aside ((l.drop i).takeWhile wdC = (l.take j).drop i ++ (l.drop j).takeWhile wdC) ∧ Aside ((l.drop i).dropWhile wdC = (l.drop j).dropWhile wdC))
        case atStart => exact ⟨i, Nat.le_refl _, by omega, rfl, rfl, rfl, (show (l.drop i).takeWhile wdC = (l.take i).drop i ++ (l.drop i).takeWhile wdC by rw [show (l.take i).drop i = [] from List.drop_eq_nil_of_le (by rw [List.length_take]; omega)]; rfl), rfl⟩
        case round =>
          obtain ⟨j, hij, hjl, rfl, rfl, rfl, HTW, HDW⟩ := hrel
          have hk : acc.length + 1 ≤ 3000 := by omega
          have hcw := bs_cut l i j
          have hijz : (i : Int) ≤ (j : Int) := by omega
          have hjlz : (j : Int) ≤ (l.length : Int) := by omega
          by_cases hj : j < l.length
          · have hjz : (j : Int) < (l.length : Int) := by omega
            obtain ⟨y, hy⟩ : ∃ y, l[j]? = some y := ⟨l[j], by simp [hj]⟩
            have hgj := bs_get l j y hy
            have hy256 : y.toNat < 256 := UInt8.toNat_lt y
            have HDJ := Lib.hid (drop_cons hy)
            have HY := Lib.hid hy
            clear hy
            cases hwy : wdC y with
            | true =>
              have HLY : Hid (∀ u, Calls Tryz.prog 63 #[.int .u8 (y.toNat : Nat)] u fun e w' => e = .returned (.bool true) ∧ w' = u) := Lib.hid (fun u => by rw [← hwy]; exact HL.out y u)
              have H1 : Hid ((l.drop i).takeWhile wdC = (l.take (j + 1)).drop i ++ (l.drop (j + 1)).takeWhile wdC) := Lib.hid (by
                obtain ⟨hj2, hy2⟩ := List.getElem?_eq_some_iff.1 HY.out
                rw [HTW.out, HDJ.out, List.takeWhile_cons, hwy, List.take_succ_eq_append_getElem hj2, hy2, List.drop_append]
                rw [show i - (l.take j).length = 0 by simp; omega]
                simp)
              have H2 : Hid ((l.drop i).dropWhile wdC = (l.drop (j + 1)).dropWhile wdC) := Lib.hid (by rw [HDW.out, HDJ.out, List.dropWhile_cons, hwy]; rfl)
              clear hwy
              go_wp2_with (go_at_call 63; refine (HLY.out _).mono ?_; rintro e w2 ⟨rfl, rfl⟩)
              go_roundg (l.length - (j + 1))
              case measure => omega
              case rel => exact ⟨j + 1, by omega, by omega, rfl, by go_num, rfl, H1.out, H2.out⟩
            | false =>
              have HLY : Hid (∀ u, Calls Tryz.prog 63 #[.int .u8 (y.toNat : Nat)] u fun e w' => e = .returned (.bool false) ∧ w' = u) := Lib.hid (fun u => by rw [← hwy]; exact HL.out y u)
              have hlt2 : i < j := by
                rcases Nat.lt_or_ge i j with h | h
                · exact h
                · have e : i = j := by omega
                  have h1 := HX.out
                  rw [e, HY.out] at h1
                  have h2 := Option.some.inj h1
                  rw [h2, HWX.out] at hwy
                  cases hwy
              have HTK : Hid (TK l = ((acc ++ [((l.take j).drop i, false)]) ++ (TK (l.drop j)).1, (TK (l.drop j)).2)) := Lib.hid (by
                rw [HA.out, HT.out, HTW.out, HDW.out, HDJ.out, List.takeWhile_cons, List.dropWhile_cons, hwy]
                simp)
              clear hwy
              go_wp2_with (first
                | (go_at_call 63; refine (HLY.out _).mono ?_; rintro e w2 ⟨rfl, rfl⟩)
                | (at_builtin; refine wp_tok rfl _ _ (by rfl) ((l.take j).drop i, false) (by rfl) (by rfl) HO.out BW.out hk ?_; intro v' w2 hO2 hB2))
              go_roundg (l.length - j)
              case measure => omega
              case rel => exact ⟨j, acc ++ [((l.take j).drop i, false)], v', by omega, by simp only [List.length_append, List.length_cons, List.length_nil]; omega, rfl, rfl, by go_num, hO2, hB2, HTK.out⟩
          · have hjz : ¬ (j : Int) < (l.length : Int) := by omega
            have HTK : Hid (TK l = ((acc ++ [((l.take j).drop i, false)]) ++ (TK (l.drop j)).1, (TK (l.drop j)).2)) := Lib.hid (by
              rw [HA.out, HT.out, HTW.out, HDW.out, List.drop_eq_nil_of_le (show l.length ≤ j by omega)]
              simp)
            go_wp2_with (at_builtin; refine wp_tok rfl _ _ (by rfl) ((l.take j).drop i, false) (by rfl) (by rfl) HO.out BW.out hk ?_; intro v' w2 hO2 hB2)
            go_roundg (l.length - j)
            case measure => omega
            case rel => exact ⟨j, acc ++ [((l.take j).drop i, false)], v', by omega, by simp only [List.length_append, List.length_cons, List.length_nil]; omega, rfl, rfl, by go_num, hO2, hB2, HTK.out⟩
      | false =>
        have HT : Hid ((TK l).2 = false) := Lib.hid (by rw [HA.out, HD.out, TK_bad _ h32 hbr h34 (by rw [hw]; decide)])
        have HLX : Hid (∀ u, Calls Tryz.prog 63 #[.int .u8 (x.toNat : Nat)] u fun e w' => e = .returned (.bool false) ∧ w' = u) := Lib.hid (fun u => by rw [← hw]; exact HL.out x u)
        clear hw h32 hbr h34
        go_wp2_with (go_at_call 63; refine (HLX.out _).mono ?_; rintro e w2 ⟨rfl, rfl⟩)
        go_ret2
        exact tok_fell HT.out BW.out
    · have hltz : ¬ (i : Int) < (l.length : Int) := by omega
      have HE : Hid (TK l = (acc, true)) := Lib.hid (by rw [HA.out, List.drop_eq_nil_of_le (by omega), TK_nil]; simp)
      obtain ⟨ad, c, rfl, hsl⟩ := tok_slt HO.out (by have h1 := TK_ln 1024 l hl (Nat.le_refl _); have h2 := (TK_len _ l (Nat.le_refl _)).1; rw [HE.out] at h1 h2; exact ⟨Nat.le_trans h2 hl, h1⟩)
      have HSL := Lib.hid hsl
      clear hsl HO HA
      go_wp2_with fail
      go_ret2
      refine ⟨?_, BW.out⟩
      rw [HE.out, if_pos rfl]
      exact ⟨ad, c, rfl, HSL.out⟩
end Go.Proofs.YthpagppipifgeaaGreatDoor
/- What ostiaryref20's reading answers; steps for it. -/
namespace Go.Proofs.YthpagppipifgeaaGreatDoor
open Go.RowKit

/-- What reading from tokens answers (the tokens lie in w0's memory). -/
def PKq (o : LRes) (w0 w : World) : Ending → World → Prop := fun e w' =>
  match o with
  | some (p, r) => (∃ ad c ra rc, e = .returned (.tuple #[pv p.k p.o p.n p.t ad p.kids.len c, .slice ra r.length rc, .bool true]) ∧ SlQ (fun k => w.heap.size ≤ k) w' p.kids ad c ∧ SlT w0 r ra rc) ∧ p.n.size ≤ SB ∧ p.t.size ≤ SB ∧ Below w.heap.size w w'
  | none => (∃ k o n t ad l c rs, e = .returned (.tuple #[pv k o n t ad l c, rs, .bool false])) ∧ Below w.heap.size w w'
theorem results_cell_tmp2 {fn : Func} {p u u2 : Tmp} {ty : TypeId} (h : fn.results = #[.cell p ty, .tmp u, .tmp u2]) (tmps : Array Value) (P : Program) (w : World) :
    (results fn tmps).run P w =
      ((asAddr (tmps.getD p undef)).run P w).andThen fun a w₁ => ((loadVar ty a).run P w₁).andThen fun v w₂ => .ok (.tuple #[v, tmps.getD u undef, tmps.getD u2 undef]) w₂ := by
  simp only [results, h]
  simp [Sem.run_bind, Result.andThen]
section
variable {P : Program} {o : Oper} {a : Act} {B : Nat} {w0 w : World} {L L' : List (Nat × Array Value × TypeId)}
/-- A call's end with a struct or an array in a variable, and two other results. -/
theorem bodyPost_rws3 {fn : Func} {R : Ending → World → Prop} {p u u2 : Tmp} {ty : TypeId} (hf : fn.results = #[.cell p ty, .tmp u, .tmp u2]) (h : Rws B w0 w L) (g : Nat) (hp : a.tmps.getD p undef = .pointer (some ⟨g, 0, none⟩))
    (cs : Array Value) (t : TypeId) (hm : (g, cs, t) ∈ L) (d : TypeDesc) (hu : P.underlying ty = some d) (hd : (match d with | .struct _ | .array _ _ => true | _ => false) = true) (hi : (P.info? ty).map (·.size) = some cs.size)
    (v v2 : Value) (hv : a.tmps.getD u undef = v) (hv2 : a.tmps.getD u2 undef = v2) (hdef : a.defers = []) (hR : Below B w0 w → R (.returned (.tuple #[.agg cs, v, v2])) w) : bodyPost P fn R .ret a w := by
  refine bodyPost_ret (v := .tuple #[.agg cs, v, v2]) ?_ hdef (hR h.below)
  rw [results_cell_tmp2 hf, hp, hv, hv2]
  simp [asAddr, Result.andThen, run_loadVar_row w g t ty cs (0, 0) d (h.row _ hm).2 hu hd hi]
/-- A whole variable is written, in a region that draws its order. -/
theorem step_store {ops : Array Oper} {K : Act → World → Prop} {Q : Exit → Act → World → Prop} {E : Prop} (hgd : o.guard = none) (ty : TypeId) (x y : Operand) (ho : o.op = .store ty x y) (h : Rws B w0 w L) (g : Nat) (hx : a.eval x = .pointer (some ⟨g, 0, none⟩))
    (new : Array Value) (hy : a.eval y = .agg new) (cs : Array Value) (t : TypeId) (hm : Pick L (g, cs, t) L')
    (hi : (P.info? ty).map (·.size) = some new.size) (hc : cs.size = new.size) (h1 : new.all (·.oneCell') = true)
    (hK : ∀ w', Rws B w0 w' ((g, new, t) :: L') → (∀ k, k ≠ g → w'.heap[k]? = w.heap[k]?) → w'.heap.size = w.heap.size → K (a.put o.dst undef) w') :
    if Region.wanted o (yielded ops a.tmps) = true then Oper.wp P o a w K Q else E := by
  have hw : Region.wanted o (yielded ops a.tmps) = true := by simp [Region.wanted, hgd]
  rw [if_pos hw]
  unfold Oper.wp execOp
  simp only [ho, hx, hy, Instr.storeAt, Instr.sureAddr, Sem.run_bind, Sem.run_pure, Result.andThen_ok, run_storeVar_row w g t ty cs new (h.row _ hm.mem).2 hi hc h1]
  refine hK _ (h.set hm new) (fun k hk => ?_) (size_setRow _ _ _)
  simp only [World.setRow, Array.getElem?_modify]
  rw [if_neg (fun e => hk e.symm)]
end
/-- All but the first, as Go cuts it. -/
def cutA (b f c : Nat) : Option Addr := if c = 1 then some ⟨b, f, none⟩ else some ⟨b, f + 2, none⟩
theorem SlT.tail {w : World} {x : Tok} {r : List Tok} {b f c : Nat} (h : SlT w (x :: r) (some ⟨b, f, none⟩) c) : SlT w r (if c = 1 then some ⟨b, f, none⟩ else some ⟨b, f + 2, none⟩) (c - 1) := by
  obtain ⟨h1, h2, h5, b', f', h3, h4⟩ := h
  have h6 : r.length ≤ 1024 ∧ ∀ t, t ∈ r → t.1.length ≤ 1024 := ⟨by have := h5.1; simp only [List.length_cons] at this; omega, fun t ht => h5.2 t (List.mem_cons_of_mem _ ht)⟩
  rcases h3 with h3 | ⟨_, h0⟩
  · simp only [Option.some.injEq, Addr.mk.injEq, and_true] at h3
    obtain ⟨rfl, rfl⟩ := h3
    simp only [List.length_cons] at h1
    by_cases hc : c = 1
    · rw [if_pos hc]
      exact ⟨by omega, by omega, h6, b, f + 2, Or.inr ⟨rfl, by omega⟩, h4.2⟩
    · rw [if_neg hc]
      exact ⟨by omega, by omega, h6, b, f + 2, Or.inl rfl, h4.2⟩
  · simp at h0
theorem isT_head {wd : List UInt8} {ts : List Tok} (h : isT wd ts = true) : ∃ r, ts = (wd, false) :: r := by
  cases ts with
  | nil => exact absurd h (by unfold isT; simp)
  | cons x r =>
    obtain ⟨a, q⟩ := x
    unfold isT at h
    have := of_decide_eq_true h
    simp only [List.head?_cons, Option.some.injEq, Prod.mk.injEq] at this
    obtain ⟨rfl, rfl⟩ := this
    exact ⟨r, rfl⟩
set_option maxRecDepth 100000 in
set_option maxHeartbeats 4000000 in
/-- 'always'. -/
theorem single_always (f : Nat) (ts : List Tok) (ad : Option Addr) (c : Nat) (w0 w : World) (hb0 : Below w0.heap.size w0 w) (hs0 : SlT w0 ts ad c) (h1 : isT [40] ts = false) (h2 : isT sAlways ts = true) :
    Calls Tryz.prog 64 #[.slice ad ts.length c] w (PKq (oneL (parseL f) ts) w0 w) := by
  have hMX := MX_eq
  have hs := hs0.grown hb0
  have hans : oneL (parseL f) ts = some (⟨0, 0, e0, e0, .nil⟩, ts.tail) := by unfold oneL; rw [if_neg (by rw [h1]; decide), if_pos h2]
  rw [hans]
  have HI : Hid (∀ (wd : ByteArray) u, Below w.heap.size w u → Calls Tryz.prog 65 #[.slice ad ts.length c, .string wd] u fun e w' => e = .returned (.bool (isT wd.data.toList ts)) ∧ w' = u) := Lib.hid fun wd u hb => is_any ts ad c wd u (hs.grown hb)
  have HI1 : Hid (∀ u, Below w.heap.size w u → Calls Tryz.prog 65 #[.slice ad ts.length c, .string ⟨#[40]⟩] u fun e w' => e = .returned (.bool false) ∧ w' = u) := Lib.hid fun u hb => by rw [← h1]; exact HI.out ⟨#[40]⟩ u hb
  have HI2 : Hid (∀ u, Below w.heap.size w u → Calls Tryz.prog 65 #[.slice ad ts.length c, .string ⟨#[97, 108, 119, 97, 121, 115]⟩] u fun e w' => e = .returned (.bool true) ∧ w' = u) := Lib.hid fun u hb => by rw [← h2]; exact HI.out ⟨#[97, 108, 119, 97, 121, 115]⟩ u hb
  obtain ⟨r, rfl⟩ := isT_head h2
  have hle := hs.le
  have hcm := hs.cm
  obtain ⟨b, fo, had, _⟩ := hs.at_
  obtain rfl : ad = some ⟨b, fo, none⟩ := by rcases had with h | ⟨_, h⟩; exact h; simp at h
  obtain ⟨A, hA, hT⟩ : ∃ A, A = (if c = 1 then some ⟨b, fo, none⟩ else some ⟨b, fo + 2, none⟩) ∧ SlT w0 r A (c - 1) := ⟨_, rfl, hs0.tail⟩
  have HT := Lib.hid hT
  clear hT
  have hln : ((sAlways, false) :: r : List Tok).length = r.length + 1 := rfl
  rw [hln] at HI1 HI2 hle ⊢
  have hlz : (1 : Int) ≤ (r.length : Int) + 1 := by omega
  have hR := Rws.start w
  clear hans HI hs hs0 h1 h2 had hln
  have hAc : (c = 1 ∧ A = some ⟨b, fo, none⟩) ∨ (¬ c = 1 ∧ A = some ⟨b, fo + 2, none⟩) := by
    by_cases h : c = 1
    · left; exact ⟨h, by rw [hA, if_pos h]⟩
    · right; exact ⟨h, by rw [hA, if_neg h]⟩
  clear hA
  go_enter Tryz.func64, Tryz.ntmps64
  go_upto_region 1 with (refine wQ_alloc (cs := zP) rfl _ (by rfl) (by assumption) zero_pol ?_; intro g0 w1 hR hb1 hg0)
  go_upto_region 7 with (first
    | (go_at_call 65; refine (HI1.out _ hR.below).mono ?_; clear HI1; rintro e w2 ⟨rfl, rfl⟩)
    | (go_at_call 65; refine (HI2.out _ hR.below).mono ?_; clear HI2; rintro e w2 ⟨rfl, rfl⟩))
  have f0 := hR.cellAt (g := g0) (List.Mem.head _) 0 rfl; have t0 := hR.thaw (g := g0) (List.Mem.head _) 0; have f1 := hR.cellAt (g := g0) (List.Mem.head _) 1 rfl; have t1 := hR.thaw (g := g0) (List.Mem.head _) 1; have f2 := hR.cellAt (g := g0) (List.Mem.head _) 2 rfl; have t2 := hR.thaw (g := g0) (List.Mem.head _) 2; have f3 := hR.cellAt (g := g0) (List.Mem.head _) 3 rfl; have t3 := hR.thaw (g := g0) (List.Mem.head _) 3; have f4 := hR.cellAt (g := g0) (List.Mem.head _) 4 rfl; have t4 := hR.thaw (g := g0) (List.Mem.head _) 4
  have hR3 := (((((hR.drew.setc 0 (.int .i64 0)).setc 1 (.int .i64 0)).setc 2 (.string ⟨#[]⟩)).setc 3 (.string ⟨#[]⟩)).setc 4 (.slice none 0 0))
  have HR3 := Lib.hid hR3
  clear hR3
  rcases hAc with ⟨rfl, rfl⟩ | ⟨hc1, rfl⟩
  · obtain rfl : r = [] := List.eq_nil_of_length_eq_zero (by omega)
    go_region
    all_goals
      go_wp2_with fail
      refine bodyPost_rws3 rfl HR3.out g0 rfl _ _ (List.Mem.head _) _ Tryz.underlying24 rfl (by kernel_rfl) _ _ rfl rfl rfl (fun hbz => ?_)
      exact ⟨⟨none, 0, _, _, rfl, SlQ.nil _ _, HT.out⟩, (show e0.size ≤ SB by decide), (show e0.size ≤ SB by decide), hbz⟩
  · go_region
    all_goals
      go_wp2_with fail
      refine bodyPost_rws3 rfl HR3.out g0 rfl _ _ (List.Mem.head _) _ Tryz.underlying24 rfl (by kernel_rfl) _ _ rfl rfl rfl (fun hbz => ?_)
      exact ⟨⟨none, 0, _, _, rfl, SlQ.nil _ _, HT.out⟩, (show e0.size ≤ SB by decide), (show e0.size ≤ SB by decide), hbz⟩
end Go.Proofs.YthpagppipifgeaaGreatDoor
/- ostiaryref20.single: 'not'. -/
namespace Go.Proofs.YthpagppipifgeaaGreatDoor
open Go.RowKit

def SingleAt (f : Nat) : Prop := ∀ (ts : List Tok) (ad : Option Addr) (c : Nat) (w0 w : World), 4 * ts.length + 1 ≤ f → Below w0.heap.size w0 w → SlT w0 ts ad c → Calls Tryz.prog 64 #[.slice ad ts.length c] w (PKq (parseL f 0 ts) w0 w)
set_option maxRecDepth 100000 in
set_option maxHeartbeats 4000000 in
theorem single_not (f : Nat) (h0 : SingleAt f) (ts : List Tok) (ad : Option Addr) (c : Nat) (w0 w : World) (hb0 : Below w0.heap.size w0 w) (hs0 : SlT w0 ts ad c) (hf : 4 * ts.length ≤ f + 3) (h1 : isT [40] ts = false) (h2 : isT sAlways ts = false) (h3 : isT sNot ts = true) :
    Calls Tryz.prog 64 #[.slice ad ts.length c] w (PKq (oneL (parseL f) ts) w0 w) := by
  have hMX := MX_eq
  have hs := hs0.grown hb0
  have hans : oneL (parseL f) ts = (match parseL f 0 ts.tail with
    | none => none
    | some (q, r) => some (⟨1, 0, e0, e0, .cons q.k q.o q.n q.t q.kids .nil⟩, r)) := by
    unfold oneL; rw [if_neg (by rw [h1]; decide), if_neg (by rw [h2]; decide), if_pos h3]; cases parseL f 0 ts.tail <;> rfl
  rw [hans]
  have HI : Hid (∀ (wd : ByteArray) u, Below w.heap.size w u → Calls Tryz.prog 65 #[.slice ad ts.length c, .string wd] u fun e w' => e = .returned (.bool (isT wd.data.toList ts)) ∧ w' = u) := Lib.hid fun wd u hb => is_any ts ad c wd u (hs.grown hb)
  have HIp : Hid (∀ u, Below w.heap.size w u → Calls Tryz.prog 65 #[.slice ad ts.length c, .string ⟨#[40]⟩] u fun e w' => e = .returned (.bool false) ∧ w' = u) := Lib.hid fun u hb => by rw [← h1]; exact HI.out ⟨#[40]⟩ u hb
  have HIa : Hid (∀ u, Below w.heap.size w u → Calls Tryz.prog 65 #[.slice ad ts.length c, .string ⟨#[97, 108, 119, 97, 121, 115]⟩] u fun e w' => e = .returned (.bool false) ∧ w' = u) := Lib.hid fun u hb => by rw [← h2]; exact HI.out ⟨#[97, 108, 119, 97, 121, 115]⟩ u hb
  have HIn : Hid (∀ u, Below w.heap.size w u → Calls Tryz.prog 65 #[.slice ad ts.length c, .string ⟨#[110, 111, 116]⟩] u fun e w' => e = .returned (.bool true) ∧ w' = u) := Lib.hid fun u hb => by rw [← h3]; exact HI.out ⟨#[110, 111, 116]⟩ u hb
  obtain ⟨r, rfl⟩ := isT_head h3
  have hle := hs.le
  have hcm := hs.cm
  obtain ⟨b, fo, had, _⟩ := hs.at_
  obtain rfl : ad = some ⟨b, fo, none⟩ := by rcases had with h | ⟨_, h⟩; exact h; simp at h
  obtain ⟨A, hA, hT⟩ : ∃ A, A = (if c = 1 then some ⟨b, fo, none⟩ else some ⟨b, fo + 2, none⟩) ∧ SlT w0 r A (c - 1) := ⟨_, rfl, hs0.tail⟩
  have hln : ((sNot, false) :: r : List Tok).length = r.length + 1 := rfl
  rw [hln] at HIp HIa HIn hle hf ⊢
  rw [List.tail_cons]
  have hlz : (1 : Int) ≤ (r.length : Int) + 1 := by omega
  have HS : Hid (∀ u, Below w.heap.size w u → Calls Tryz.prog 64 #[.slice A r.length (c - 1)] u (PKq (parseL f 0 r) w0 u)) := Lib.hid fun u hb => h0 r A (c - 1) w0 u (by omega) (hb0.trans (hb.mono hb0.size)) hT
  have hAc : (c = 1 ∧ A = some ⟨b, fo, none⟩) ∨ (¬ c = 1 ∧ A = some ⟨b, fo + 2, none⟩) := by
    by_cases h : c = 1
    · left; exact ⟨h, by rw [hA, if_pos h]⟩
    · right; exact ⟨h, by rw [hA, if_neg h]⟩
  have hR := Rws.start w
  clear hans HI hs hs0 h0 h1 h2 h3 had hln hT hA
  rcases hAc with ⟨rfl, rfl⟩ | ⟨hc1, rfl⟩
  · obtain rfl : r = [] := List.eq_nil_of_length_eq_zero (by omega)
    cases hr : parseL f 0 [] with
    | none =>
      rw [hr] at HS
      simp only
      go_enter Tryz.func64, Tryz.ntmps64
      go_upto_region 1 with (refine wQ_alloc (cs := zP) rfl _ (by rfl) (by assumption) zero_pol ?_; intro g0 w1 hR hbg0 hg0)
      go_upto_region 10 with (first
        | (go_at_call_of 65 (Value.string ⟨#[40]⟩); refine (HIp.out _ hR.below).mono ?_; rintro e wip ⟨rfl, rfl⟩)
        | (go_at_call_of 65 (Value.string ⟨#[97, 108, 119, 97, 121, 115]⟩); refine (HIa.out _ hR.below).mono ?_; rintro e wia ⟨rfl, rfl⟩)
        | (go_at_call_of 65 (Value.string ⟨#[110, 111, 116]⟩); refine (HIn.out _ hR.below).mono ?_; rintro e win ⟨rfl, rfl⟩)
        | (go_at_call 64; refine (HS.out _ hR.below).mono ?_; rintro e w2 ⟨⟨k, o, n, t, ad, l, c', rs, rfl⟩, hb⟩; have hR := hR.call hb)
        | (refine wQ_alloc (cs := zP) rfl _ (by rfl) (by assumption) zero_pol ?_; intro g8 w3 hR hbg8 hg8)
        | (refine wQ_store rfl _ _ _ (by rfl) (by assumption) _ rfl #[.int .i64 k, .int .i64 o, .string n, .string t, .slice ad l c'] (by rfl) _ _ _ (by repeat (first | exact Pick.here | apply Pick.there)) (by kernel_rfl) (by kernel_rfl) (by kernel_rfl) ?_; intro w4 hR hsm hsz))
      clear hsm hsz
      have hRA := hR.alloc0 (.cells #[.int .i64 k, .int .i64 o, .string n, .string t, .slice ad l c'] 24)
      go_wp2_with (first
        | (refine wpList_load_rws rfl _ _ (by rfl) (by assumption) _ rfl _ _ (by repeat (first | exact List.Mem.head _ | refine List.Mem.tail _ ?_)) _ Tryz.underlying24 rfl (by kernel_rfl) ?_)
        | (refine wQ_store rfl _ _ _ (by rfl) (by assumption) _ rfl #[.int .i64 1, .int .i64 0, .string ⟨#[]⟩, .string ⟨#[]⟩, .slice (some ⟨w4.heap.size, 0, none⟩) 1 1] (by rfl) _ _ _ (by repeat (first | exact Pick.here | apply Pick.there)) (by kernel_rfl) (by kernel_rfl) (by kernel_rfl) ?_; intro w5 hR hsm7 hsz7))
      refine bodyPost_rws3 rfl (by assumption) g0 rfl _ _ (List.Mem.head _) _ Tryz.underlying24 rfl (by kernel_rfl) _ _ rfl rfl rfl (fun hbz => ?_)
      exact ⟨⟨_, _, _, _, _, _, _, _, rfl⟩, hbz⟩
    | some p =>
      obtain ⟨p, r'⟩ := p
      rw [hr] at HS
      simp only
      go_enter Tryz.func64, Tryz.ntmps64
      go_upto_region 1 with (refine wQ_alloc (cs := zP) rfl _ (by rfl) (by assumption) zero_pol ?_; intro g0 w1 hR hbg0 hg0)
      have hg0l : g0 < w1.heap.size := hR.lt (List.Mem.head _)
      go_upto_region 10 with (first
        | (go_at_call_of 65 (Value.string ⟨#[40]⟩); refine (HIp.out _ hR.below).mono ?_; rintro e wip ⟨rfl, rfl⟩)
        | (go_at_call_of 65 (Value.string ⟨#[97, 108, 119, 97, 121, 115]⟩); refine (HIa.out _ hR.below).mono ?_; rintro e wia ⟨rfl, rfl⟩)
        | (go_at_call_of 65 (Value.string ⟨#[110, 111, 116]⟩); refine (HIn.out _ hR.below).mono ?_; rintro e win ⟨rfl, rfl⟩)
        | (go_at_call 64; refine (HS.out _ hR.below).mono ?_; rintro e w2 ⟨⟨ap, cp, ra, rc, rfl, hsl, hsr⟩, hpn, hpt, hb⟩; have hR := hR.call hb)
        | (refine wQ_alloc (cs := zP) rfl _ (by rfl) (by assumption) zero_pol ?_; intro g8 w3 hR hbg8 hg8)
        | (refine wQ_store rfl _ _ _ (by rfl) (by assumption) _ rfl #[.int .i64 p.k, .int .i64 p.o, .string p.n, .string p.t, .slice ap p.kids.len cp] (by rfl) _ _ _ (by repeat (first | exact Pick.here | apply Pick.there)) (by kernel_rfl) (by kernel_rfl) (by kernel_rfl) ?_; intro w4 hR hsm hsz))
      have hw6B : w.heap.size ≤ w4.heap.size := hR.len
      have hg0w6 : g0 < w4.heap.size := hR.lt (List.Mem.tail _ (List.Mem.head _))
      have hw1B := hbg0.size
      have hsl6 : SlQ (fun k => (w.heap.size ≤ k ∧ k ≠ g0) ∧ k < w4.heap.size) w4 p.kids ap cp := hsl.same (fun k hk hlt => ⟨⟨by omega, by omega⟩, by have := hbg8.size; omega⟩) (fun k hk hlt => (hsm k (by omega)).trans (hbg8.block k hlt))
      have HK6 := Lib.hid hsl6
      have HSR := Lib.hid hsr
      clear hsl hsl6 hsr hsm hsz hbg8
      have hRA := hR.alloc0 (.cells #[.int .i64 p.k, .int .i64 p.o, .string p.n, .string p.t, .slice ap p.kids.len cp] 24)
      go_wp2_with (first
        | (refine wpList_load_rws rfl _ _ (by rfl) (by assumption) _ rfl _ _ (by repeat (first | exact List.Mem.head _ | refine List.Mem.tail _ ?_)) _ Tryz.underlying24 rfl (by kernel_rfl) ?_)
        | (refine wQ_store rfl _ _ _ (by rfl) (by assumption) _ rfl #[.int .i64 1, .int .i64 0, .string ⟨#[]⟩, .string ⟨#[]⟩, .slice (some ⟨w4.heap.size, 0, none⟩) 1 1] (by rfl) _ _ _ (by repeat (first | exact Pick.here | apply Pick.there)) (by kernel_rfl) (by kernel_rfl) (by kernel_rfl) ?_; intro w5 hR hsm7 hsz7))
      refine bodyPost_rws3 rfl (by assumption) g0 rfl _ _ (List.Mem.head _) _ Tryz.underlying24 rfl (by kernel_rfl) _ _ rfl rfl rfl (fun hbz => ?_)
      have hkk : SlQ (fun k => w.heap.size ≤ k) w5 p.kids ap cp := HK6.out.same (fun k hk _ => hk.1.1) (fun k hk hlt => (hsm7 k hk.1.2).trans ((b_alloc w4 _).block k hk.2))
      exact ⟨⟨_, _, _, _, rfl, one_slq p ap cp rfl hw6B (hsm7 _ (by omega)) hpn hpt hkk, HSR.out⟩, (show e0.size ≤ SB by decide), (show e0.size ≤ SB by decide), hbz⟩
  · skip
    cases hr : parseL f 0 r with
    | none =>
      rw [hr] at HS
      simp only
      go_enter Tryz.func64, Tryz.ntmps64
      go_upto_region 1 with (refine wQ_alloc (cs := zP) rfl _ (by rfl) (by assumption) zero_pol ?_; intro g0 w1 hR hbg0 hg0)
      go_upto_region 10 with (first
        | (go_at_call_of 65 (Value.string ⟨#[40]⟩); refine (HIp.out _ hR.below).mono ?_; rintro e wip ⟨rfl, rfl⟩)
        | (go_at_call_of 65 (Value.string ⟨#[97, 108, 119, 97, 121, 115]⟩); refine (HIa.out _ hR.below).mono ?_; rintro e wia ⟨rfl, rfl⟩)
        | (go_at_call_of 65 (Value.string ⟨#[110, 111, 116]⟩); refine (HIn.out _ hR.below).mono ?_; rintro e win ⟨rfl, rfl⟩)
        | (go_at_call 64; refine (HS.out _ hR.below).mono ?_; rintro e w2 ⟨⟨k, o, n, t, ad, l, c', rs, rfl⟩, hb⟩; have hR := hR.call hb)
        | (refine wQ_alloc (cs := zP) rfl _ (by rfl) (by assumption) zero_pol ?_; intro g8 w3 hR hbg8 hg8)
        | (refine wQ_store rfl _ _ _ (by rfl) (by assumption) _ rfl #[.int .i64 k, .int .i64 o, .string n, .string t, .slice ad l c'] (by rfl) _ _ _ (by repeat (first | exact Pick.here | apply Pick.there)) (by kernel_rfl) (by kernel_rfl) (by kernel_rfl) ?_; intro w4 hR hsm hsz))
      clear hsm hsz
      have hRA := hR.alloc0 (.cells #[.int .i64 k, .int .i64 o, .string n, .string t, .slice ad l c'] 24)
      go_wp2_with (first
        | (refine wpList_load_rws rfl _ _ (by rfl) (by assumption) _ rfl _ _ (by repeat (first | exact List.Mem.head _ | refine List.Mem.tail _ ?_)) _ Tryz.underlying24 rfl (by kernel_rfl) ?_)
        | (refine wQ_store rfl _ _ _ (by rfl) (by assumption) _ rfl #[.int .i64 1, .int .i64 0, .string ⟨#[]⟩, .string ⟨#[]⟩, .slice (some ⟨w4.heap.size, 0, none⟩) 1 1] (by rfl) _ _ _ (by repeat (first | exact Pick.here | apply Pick.there)) (by kernel_rfl) (by kernel_rfl) (by kernel_rfl) ?_; intro w5 hR hsm7 hsz7))
      refine bodyPost_rws3 rfl (by assumption) g0 rfl _ _ (List.Mem.head _) _ Tryz.underlying24 rfl (by kernel_rfl) _ _ rfl rfl rfl (fun hbz => ?_)
      exact ⟨⟨_, _, _, _, _, _, _, _, rfl⟩, hbz⟩
    | some p =>
      obtain ⟨p, r'⟩ := p
      rw [hr] at HS
      simp only
      go_enter Tryz.func64, Tryz.ntmps64
      go_upto_region 1 with (refine wQ_alloc (cs := zP) rfl _ (by rfl) (by assumption) zero_pol ?_; intro g0 w1 hR hbg0 hg0)
      have hg0l : g0 < w1.heap.size := hR.lt (List.Mem.head _)
      go_upto_region 10 with (first
        | (go_at_call_of 65 (Value.string ⟨#[40]⟩); refine (HIp.out _ hR.below).mono ?_; rintro e wip ⟨rfl, rfl⟩)
        | (go_at_call_of 65 (Value.string ⟨#[97, 108, 119, 97, 121, 115]⟩); refine (HIa.out _ hR.below).mono ?_; rintro e wia ⟨rfl, rfl⟩)
        | (go_at_call_of 65 (Value.string ⟨#[110, 111, 116]⟩); refine (HIn.out _ hR.below).mono ?_; rintro e win ⟨rfl, rfl⟩)
        | (go_at_call 64; refine (HS.out _ hR.below).mono ?_; rintro e w2 ⟨⟨ap, cp, ra, rc, rfl, hsl, hsr⟩, hpn, hpt, hb⟩; have hR := hR.call hb)
        | (refine wQ_alloc (cs := zP) rfl _ (by rfl) (by assumption) zero_pol ?_; intro g8 w3 hR hbg8 hg8)
        | (refine wQ_store rfl _ _ _ (by rfl) (by assumption) _ rfl #[.int .i64 p.k, .int .i64 p.o, .string p.n, .string p.t, .slice ap p.kids.len cp] (by rfl) _ _ _ (by repeat (first | exact Pick.here | apply Pick.there)) (by kernel_rfl) (by kernel_rfl) (by kernel_rfl) ?_; intro w4 hR hsm hsz))
      have hw6B : w.heap.size ≤ w4.heap.size := hR.len
      have hg0w6 : g0 < w4.heap.size := hR.lt (List.Mem.tail _ (List.Mem.head _))
      have hw1B := hbg0.size
      have hsl6 : SlQ (fun k => (w.heap.size ≤ k ∧ k ≠ g0) ∧ k < w4.heap.size) w4 p.kids ap cp := hsl.same (fun k hk hlt => ⟨⟨by omega, by omega⟩, by have := hbg8.size; omega⟩) (fun k hk hlt => (hsm k (by omega)).trans (hbg8.block k hlt))
      have HK6 := Lib.hid hsl6
      have HSR := Lib.hid hsr
      clear hsl hsl6 hsr hsm hsz hbg8
      have hRA := hR.alloc0 (.cells #[.int .i64 p.k, .int .i64 p.o, .string p.n, .string p.t, .slice ap p.kids.len cp] 24)
      go_wp2_with (first
        | (refine wpList_load_rws rfl _ _ (by rfl) (by assumption) _ rfl _ _ (by repeat (first | exact List.Mem.head _ | refine List.Mem.tail _ ?_)) _ Tryz.underlying24 rfl (by kernel_rfl) ?_)
        | (refine wQ_store rfl _ _ _ (by rfl) (by assumption) _ rfl #[.int .i64 1, .int .i64 0, .string ⟨#[]⟩, .string ⟨#[]⟩, .slice (some ⟨w4.heap.size, 0, none⟩) 1 1] (by rfl) _ _ _ (by repeat (first | exact Pick.here | apply Pick.there)) (by kernel_rfl) (by kernel_rfl) (by kernel_rfl) ?_; intro w5 hR hsm7 hsz7))
      refine bodyPost_rws3 rfl (by assumption) g0 rfl _ _ (List.Mem.head _) _ Tryz.underlying24 rfl (by kernel_rfl) _ _ rfl rfl rfl (fun hbz => ?_)
      have hkk : SlQ (fun k => w.heap.size ≤ k) w5 p.kids ap cp := HK6.out.same (fun k hk _ => hk.1.1) (fun k hk hlt => (hsm7 k hk.1.2).trans ((b_alloc w4 _).block k hk.2))
      exact ⟨⟨_, _, _, _, rfl, one_slq p ap cp rfl hw6B (hsm7 _ (by omega)) hpn hpt hkk, HSR.out⟩, (show e0.size ≤ SB by decide), (show e0.size ≤ SB by decide), hbz⟩
end Go.Proofs.YthpagppipifgeaaGreatDoor
/- What ostiaryref20.many is to do. -/
namespace Go.Proofs.YthpagppipifgeaaGreatDoor
open Go.RowKit

theorem add_z (b j : Nat) : (⟨b, 0, none⟩ : Addr).add j = ⟨b, j, none⟩ := by unfold Addr.add; split <;> simp_all
theorem Rws.swap {B : Nat} {w0 w : World} {x y : Nat × Array Value × TypeId} {L : List (Nat × Array Value × TypeId)} (h : Rws B w0 w (x :: y :: L)) : Rws B w0 w (y :: x :: L) := by
  refine ⟨h.below, h.len, fun z hz => h.row z ?_, ?_⟩
  · simp only [List.mem_cons] at hz ⊢
    rcases hz with h | h | h
    · exact Or.inr (Or.inl h)
    · exact Or.inl h
    · exact Or.inr (Or.inr h)
  · have hn := h.nd
    simp only [List.pairwise_cons, List.mem_cons, forall_eq_or_imp] at hn ⊢
    exact ⟨⟨fun e => hn.1.1 e.symm, hn.2.1⟩, hn.1.2, hn.2.2⟩
def ManyAt (f lv : Nat) : Prop := ∀ (ts : List Tok) (ad : Option Addr) (c : Nat) (w0 w : World), 4 * ts.length + lv + 2 ≤ f → Below w0.heap.size w0 w → SlT w0 ts ad c → Calls Tryz.prog 37 #[.slice ad ts.length c, .int .i64 (kOf lv)] w (PKq (parseL f (lv + 1) ts) w0 w)
end Go.Proofs.YthpagppipifgeaaGreatDoor
