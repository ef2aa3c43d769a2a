/- Loops whose rounds write many slots: all these slots as one function. -/
import Derived.Test.YtjkjlbchbbpmaaaGreatDoorZR4
namespace Go.Proofs.YtjkjlbchbbpmaaaGreatDoor
open Go.RowKit

/-- A frame: where the mask says so the slot is whatever the function says. -/
def mask : Nat → List Bool → List Value → (Nat → Value) → List Value
  | k, true :: m, _ :: b, u => u k :: mask (k + 1) m b u
  | k, false :: m, x :: b, u => x :: mask (k + 1) m b u
  | _, _, _, _ => []
def fits : List Bool → List Value → List Value → Prop
  | true :: m, _ :: b, _ :: l => fits m b l
  | false :: m, x :: b, y :: l => y = x ∧ fits m b l
  | [], [], [] => True
  | _, _, _ => False
theorem fits_self : ∀ (m : List Bool) (l : List Value), m.length = l.length → fits m l l
  | [], [], _ => trivial
  | true :: m, _ :: l, h => fits_self m l (by simpa using h)
  | false :: m, _ :: l, h => ⟨rfl, fits_self m l (by simpa using h)⟩
  | [], _ :: _, h => by simp at h
  | _ :: _, [], h => by simp at h
theorem mask_eq : ∀ (m : List Bool) (b l : List Value) (k : Nat) (u : Nat → Value), fits m b l → (∀ i, u (k + i) = l.getD i undef) → mask k m b u = l
  | [], [], [], _, _, _, _ => rfl
  | true :: m, _ :: b, y :: l, k, u, h, hu => by
    have h0 : u k = y := hu 0
    show u k :: mask (k + 1) m b u = _
    rw [h0, mask_eq m b l (k + 1) u h (fun i => by rw [Nat.add_assoc, Nat.add_comm 1 i]; exact hu (i + 1))]
  | false :: m, x :: b, y :: l, k, u, h, hu => by
    show x :: mask (k + 1) m b u = _
    rw [h.1, mask_eq m b l (k + 1) u h.2 (fun i => by rw [Nat.add_assoc, Nat.add_comm 1 i]; exact hu (i + 1))]
  | [], [], _ :: _, _, _, h, _ => h.elim
  | [], _ :: _, _, _, _, h, _ => by cases h
  | true :: _, [], _, _, _, h, _ => by cases h
  | false :: _, [], _, _, _, h, _ => by cases h
  | true :: _, _ :: _, [], _, _, h, _ => by cases h
  | false :: _, _ :: _, [], _, _, h, _ => by cases h

/-- Where a round ends. -/
def RoundEnd (m : List Bool) (b : List Value) (R : (Nat → Value) → World → Prop) (μ : (Nat → Value) → World → Nat) (t : Nat) (a' : Act) (w' : World) : Prop :=
  ∃ l : List Value, a' = ⟨l.toArray, []⟩ ∧ fits m b l ∧ R (fun k => l.getD k undef) w' ∧ μ (fun k => l.getD k undef) w' < t
theorem RoundEnd.mk {m : List Bool} {b l : List Value} {R : (Nat → Value) → World → Prop} {μ : (Nat → Value) → World → Nat} {t : Nat} {w' : World} (hf : fits m b l) (hr : R (fun k => l.getD k undef) w') (hm : μ (fun k => l.getD k undef) w' < t) : RoundEnd m b R μ t ⟨l.toArray, []⟩ w' :=
  ⟨l, rfl, hf, hr, hm⟩

theorem wp_loop_mask {P : Program} {Q : Exit → Act → World → Prop} {c : Code} {w : World} (m : List Bool) (R : (Nat → Value) → World → Prop) (μ : (Nat → Value) → World → Nat) {b : List Value} (hl : m.length = b.length)
    (h0 : R (fun k => b.getD k undef) w)
    (round : ∀ (u : Nat → Value) (w : World), R u w → c.wp P (Exit.then (RoundEnd m b R μ (μ u w)) Q) ⟨(mask 0 m b u).toArray, []⟩ w) : (Code.loop c).wp P Q ⟨b.toArray, []⟩ w := by
  refine wp_loop (fun a w => ∃ l : List Value, a = ⟨l.toArray, []⟩ ∧ fits m b l ∧ R (fun k => l.getD k undef) w) (fun a w => μ (fun k => a.tmps.toList.getD k undef) w) ⟨b, rfl, fits_self m b hl, h0⟩ ?_
  rintro a w ⟨l, rfl, hf, hr⟩
  have h := round (fun k => l.getD k undef) w hr
  rw [mask_eq m b l 0 _ hf (fun i => by rw [Nat.zero_add])] at h
  refine wp_mono h fun e a' w' he => ?_
  cases e with
  | normal =>
    obtain ⟨l', rfl, hf', hr', hm'⟩ := he
    exact ⟨⟨l', rfl, hf', hr'⟩, hm'⟩
  | _ => exact he

theorem put_some (l : List Value) (r : List Deferred) (i : Tmp) (v : Value) : (Act.mk l.toArray r).put (some i) v = ⟨(l.set i v).toArray, r⟩ := by
  simp [Act.put]
end Go.Proofs.YtjkjlbchbbpmaaaGreatDoor
