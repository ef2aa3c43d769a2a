/- Requests in memory; which fields may stand. -/
import Derived.Test.YtipjkjcmceeaeaaGreatDoorYRef3
import Derived.Test.YtipjkjcmceeaeaaGreatDoorYRef1
import Derived.Test.YtipjkjcmceeaeaaGreatDoorYGS2
namespace Go.Proofs.YtipjkjcmceeaeaaGreatDoor
open Go.RowKit

@[reducible] def rqC (q : Rq) (ad : Option Addr) (c : Nat) : Array Value := #[.string (bs q.m), .string (bs q.t), .slice ad q.hs.length c, .string (bs q.b)]
@[reducible] def rqv (q : Rq) (ad : Option Addr) (c : Nat) : Value := .agg (rqC q ad c)
/-- The fields lie in memory. -/
@[reducible] def SlH (w : World) (hs : List Hd) (ad : Option Addr) (c : Nat) : Prop := SlC w hs.length (HdC hs) ad c
/-- No text of a request, nor the number of its fields, is too great. -/
structure SmallQ (q : Rq) : Prop where
  m : q.m.length ≤ 1048576
  t : q.t.length ≤ 1048576
  b : q.b.length ≤ 1048576
  k : q.hs.length ≤ 1048576
  h : ∀ x, x ∈ q.hs → x.1.length ≤ 1048576 ∧ x.2.length ≤ 1048576
  ln : (linesS q.hs).length ≤ 8388608
def lSmall : List UInt8 := [97, 98, 99, 100, 101, 102, 103, 104, 105, 106, 107, 108, 109, 110, 111, 112, 113, 114, 115, 116, 117, 118, 119, 120, 121, 122, 48, 49, 50, 51, 52, 53, 54, 55, 56, 57, 45]
def lHost : List UInt8 := [97, 98, 99, 100, 101, 102, 103, 104, 105, 106, 107, 108, 109, 110, 111, 112, 113, 114, 115, 116, 117, 118, 119, 120, 121, 122, 65, 66, 67, 68, 69, 70, 71, 72, 73, 74, 75, 76, 77, 78, 79, 80, 81, 82, 83, 84, 85, 86, 87, 88, 89, 90, 48, 49, 50, 51, 52, 53, 54, 55, 56, 57, 45, 46, 58]
theorem has_small (c : UInt8) : lSmall.contains c = smC c := every_byte (P := fun c => lSmall.contains c = smC c) (by decide +kernel) c
theorem has_host (c : UInt8) : lHost.contains c = hoC c := every_byte (P := fun c => lHost.contains c = hoC c) (by decide +kernel) c
theorem hosts_take {hs : List Hd} {i : Nat} {h : Hd} (hx : hs[i]? = some h) : hosts (hs.take (i + 1)) = hosts (hs.take i) + (if h.1 = wHost then 1 else 0) := by
  obtain ⟨hi, rfl⟩ := List.getElem?_eq_some_iff.1 hx
  unfold hosts
  rw [List.take_succ_eq_append_getElem hi, List.filter_append, List.length_append]
  by_cases hh : (hs[i]).1 = wHost <;> simp [hh]
theorem hosts_le (hs : List Hd) : hosts hs ≤ hs.length := by unfold hosts; exact List.length_filter_le _ _
theorem hd_cells {w : World} {hs : List Hd} {b f i : Nat} {h : Hd} (hr : RowC w (HdC hs) b f) (hx : hs[i]? = some h) : w.cell? ⟨b, f + i * 2, none⟩ = some (.string (bs h.1)) ∧ w.cell? ⟨b, f + i * 2 + 1, none⟩ = some (.string (bs h.2)) := by
  have key : ∀ (hs : List Hd) (i : Nat) (h : Hd), hs[i]? = some h → (HdC hs)[i * 2]? = some (.string (bs h.1)) ∧ (HdC hs)[i * 2 + 1]? = some (.string (bs h.2)) := by
    intro hs
    induction hs with
    | nil => intro i h hx; simp at hx
    | cons a r ih =>
      intro i h hx
      cases i with
      | zero => simp at hx; subst hx; exact ⟨rfl, rfl⟩
      | succ i =>
        have := ih i h (by simpa using hx)
        rw [show (i + 1) * 2 = i * 2 + 2 by omega]
        exact this
  obtain ⟨k1, k2⟩ := key hs i h hx
  exact ⟨hr _ _ k1, by rw [Nat.add_assoc]; exact hr _ _ k2⟩
def zH : Array Value := #[.string ⟨#[]⟩, .string ⟨#[]⟩]
theorem zero_hd (w : World) : (zeroValue 52).run Tryz.prog w = .ok (.agg zH) w := by kernel_rfl
/-- The first line may be. -/
def lineB (q : Rq) : Bool := ofB 1 16 upC q.m && ofB 1 1024 taC q.t && decide (q.t.head? = some 47)
def badB (h : Hd) : Bool := !(ofB 1 64 smC h.1 && h.2.all plC && decide (trimS h.2 = h.2) && decide (h.1 ≠ wCl) && decide (h.1 ≠ wTe))
theorem fieldB_eq (h : Hd) : fieldB h = (!badB h && (!decide (h.1 = wHost) || ofB 1 255 hoC h.2)) := by
  unfold fieldB badB
  cases ofB 1 64 smC h.1 <;> cases h.2.all plC <;> cases decide (trimS h.2 = h.2) <;> cases decide (h.1 ≠ wCl) <;> cases decide (h.1 ≠ wTe) <;> cases decide (h.1 = wHost) <;> cases ofB 1 255 hoC h.2 <;> rfl
theorem all_hd {hs : List Hd} {i : Nat} {h : Hd} (hx : hs[i]? = some h) : (hs.take (i + 1)).all fieldB = ((hs.take i).all fieldB && fieldB h) := by
  obtain ⟨hi, e⟩ := List.getElem?_eq_some_iff.1 hx
  rw [List.take_succ_eq_append_getElem hi, List.all_append, e]
  simp
theorem all_hd_false {hs : List Hd} {i : Nat} {h : Hd} (hx : hs[i]? = some h) (hp : fieldB h = false) : hs.all fieldB = false := by
  cases hh : hs.all fieldB with
  | false => rfl
  | true => rw [List.all_eq_true.1 hh h (List.mem_of_getElem? hx)] at hp; cases hp
theorem form_line {q : Rq} : formB q = (lineB q && q.hs.all fieldB && decide (hosts q.hs = 1)) := rfl
end Go.Proofs.YtipjkjcmceeaeaaGreatDoor
