/- policy.holds: whether a node holds of facts. -/
import Derived.Test.YthpagppipifgeaaGreatDoorZLTexts
import Derived.BigQuiet
namespace Go.Proofs.YthpagppipifgeaaGreatDoor
open Go.RowKit

def HoldAt (x : Fx) (F : Fo) : Prop := ∀ (k o : Int) (n t : ByteArray) (ad : Option Addr) (c : Nat) (w : World), SlF w F ad c → FxAt w x →
  Calls Tryz.prog 32 #[pv k o n t ad F.len c, x.v] w (RetB (holdP x k o n t F) w)
/-- The facts lie in this block. -/
def FBox (w : World) (x : Fx) (B : Nat) : Prop := B < w.heap.size ∧ w.cell? ⟨B, 0, none⟩ = some (.string x.m) ∧ w.cell? ⟨B, 1, none⟩ = some (.string x.p) ∧ w.cell? ⟨B, 2, none⟩ = some (.slice x.a1 x.cl.length x.c1) ∧ w.cell? ⟨B, 3, none⟩ = some (.slice x.a2 x.ce.length x.c2)
theorem FBox.below {w w' : World} {x : Fx} {B : Nat} (h : FBox w x B) (hb : Below w.heap.size w w') : FBox w' x B := by
  obtain ⟨h0, h1, h2, h3, h4⟩ := h
  have hc : ∀ i, w'.cell? ⟨B, i, none⟩ = w.cell? ⟨B, i, none⟩ := fun i => hb.cell (p := ⟨B, i, none⟩) h0
  exact ⟨Nat.lt_of_lt_of_le h0 hb.size, (hc 0).trans h1, (hc 1).trans h2, (hc 2).trans h3, (hc 3).trans h4⟩

theorem holds1_any (x : Fx) (F : Fo) (h : HoldAt x F) (k o : Int) (n t : ByteArray) (ad : Option Addr) (c B : Nat) (w : World) (hs : SlF w F ad c) (hx : FxAt w x) (hB : FBox w x B) :
    Calls Tryz.prog 52 #[pv k o n t ad F.len c, .pointer (some ⟨B, 0, none⟩)] w (RetB (holdP x k o n t F) w) := by
  have H : Hid (∀ w1, Below w.heap.size w w1 → Calls Tryz.prog 32 #[pv k o n t ad F.len c, x.v] w1 (RetB (holdP x k o n t F) w1)) := Lib.hid fun w1 hb => h k o n t ad c w1 (hs.grown hb) (hx.below hb (Nat.le_refl _))
  have hB2 := hB.below (b_alloc w (.cells #[.int .i64 k, .int .i64 o, .string n, .string t, .slice ad F.len c] 24))
  obtain ⟨_, h0, h1, h2, h3⟩ := hB2
  clear h hs hx hB
  go_enter Tryz.func52, Tryz.ntmps52
  go_wp2_with (go_at_call 32; refine (H.out _ (b_alloc _ _)).mono ?_; rintro e w1 ⟨rfl, hb⟩)
  go_ret
  exact ⟨rfl, b_call hb⟩
theorem holds2_any (x : Fx) (F : Fo) (h : HoldAt x F) (k o : Int) (n t : ByteArray) (ad : Option Addr) (c B : Nat) (w : World) (hs : SlF w F ad c) (hx : FxAt w x) (hB : FBox w x B) :
    Calls Tryz.prog 53 #[pv k o n t ad F.len c, .pointer (some ⟨B, 0, none⟩)] w (RetB (!holdP x k o n t F) w) := by
  have H : Hid (∀ w1, Below w.heap.size w w1 → Calls Tryz.prog 32 #[pv k o n t ad F.len c, x.v] w1 (RetB (holdP x k o n t F) w1)) := Lib.hid fun w1 hb => h k o n t ad c w1 (hs.grown hb) (hx.below hb (Nat.le_refl _))
  have hB2 := hB.below (b_alloc w (.cells #[.int .i64 k, .int .i64 o, .string n, .string t, .slice ad F.len c] 24))
  obtain ⟨_, h0, h1, h2, h3⟩ := hB2
  clear h hs hx hB
  go_enter Tryz.func53, Tryz.ntmps53
  go_wp2_with (go_at_call 32; refine (H.out _ (b_alloc _ _)).mono ?_; rintro e w1 ⟨rfl, hb⟩)
  go_ret
  exact ⟨rfl, b_call hb⟩
theorem pays_h1 (x : Fx) (F : Fo) (h : F.All (HoldAt x)) (w : World) (B : Nat) (hx : FxAt w x) (hB : FBox w x B) : Pays 52 #[.pointer (some ⟨B, 0, none⟩)] (fun k o n t K => holdP x k o n t K) w F := by
  induction F with
  | nil => trivial
  | cons k o n t kids nx _ ih => exact ⟨fun W ad c hb _ _ hs => holds1_any x kids h.1 k o n t ad c B W hs (hx.below hb (Nat.le_refl _)) (hB.below hb), ih h.2⟩
theorem pays_h2 (x : Fx) (F : Fo) (h : F.All (HoldAt x)) (w : World) (B : Nat) (hx : FxAt w x) (hB : FBox w x B) : Pays 53 #[.pointer (some ⟨B, 0, none⟩)] (fun k o n t K => !holdP x k o n t K) w F := by
  induction F with
  | nil => trivial
  | cons k o n t kids nx _ ih => exact ⟨fun W ad c hb _ _ hs => holds2_any x kids h.1 k o n t ad c B W hs (hx.below hb (Nat.le_refl _)) (hB.below hb), ih h.2⟩
theorem has_any (l : List ByteArray) (t : ByteArray) (a : Option Addr) (c : Nat) (w : World) (hs : SlS w l a c) :
    Calls Tryz.prog 56 #[.slice a l.length c, .string t] w fun e w' => e = .returned (.bool (l.any fun y => decide (y.toList = t.toList))) ∧ w' = w := by
  obtain ⟨hle, hcm, b, f, had, hc⟩ := hs
  have hSB := MX_eq
  have hq : Lib.containsS l t = l.any fun y => decide (y.toList = t.toList) := by
    have h := Lib.containsS_iff l t
    cases hx : Lib.containsS l t
    · rw [hx] at h
      symm
      rw [List.any_eq_false]
      intro y hy hd
      have hd := of_decide_eq_true hd
      rw [dl, dl] at hd
      have : y = t := by cases y; cases t; simp at hd; simp [hd]
      exact absurd (h.2 (this ▸ hy)) (by decide)
    · rw [hx] at h
      symm
      rw [List.any_eq_true]
      exact ⟨t, h.1 rfl, by simp⟩
  rcases had with rfl | ⟨_, h0⟩
  · have := Tryz.slices_Contains_string b f l.length c l t w (Nat.le_refl _) (by omega) (fun j hj => by
      have := hc j l[j] (by simp [hj])
      rw [this]; simp [hj])
    rw [List.take_length, hq] at this
    exact this
  · have hl : l = [] := List.eq_nil_of_length_eq_zero h0
    subst hl
    exact Tryz.slices_Contains_string_empty a c t w
end Go.Proofs.YthpagppipifgeaaGreatDoor
