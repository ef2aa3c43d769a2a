/- der.rising: the walk. -/
import Derived.Test.YtebhiplcoioenaaGreatDoorZZGd
import Derived.Test.YtebhiplcoioenaaGreatDoorZDG
import Derived.Deep.QuietTactic
import Derived.BigQuiet
namespace Go.Proofs.YtebhiplcoioenaaGreatDoor
open Go.RowKit

def okV (b : Bool) : Value := if b then .nilIface else wrV 61
theorem less_le : ∀ a b : Bs, Op.bytesLess b a = !leB a b
  | [], [] => rfl
  | [], _ :: _ => rfl
  | _ :: _, [] => rfl
  | a :: l, b :: r => by
    have ih := less_le l r
    have h1 : (b < a) ↔ b.toNat < a.toNat := UInt8.lt_iff_toNat_lt
    have h2 : (a < b) ↔ a.toNat < b.toNat := UInt8.lt_iff_toNat_lt
    unfold Op.bytesLess leB
    by_cases g1 : a.toNat < b.toNat
    · have : ¬ b < a := by rw [h1]; omega
      have hne : ¬ b = a := by intro e; rw [e] at g1; omega
      simp [g1, this, hne]
    · by_cases g2 : b.toNat < a.toNat
      · have : b < a := h1.2 g2
        simp [g1, g2, this]
      · have e : a = b := UInt8.toNat_inj.1 (by omega)
        subst e
        simp [ih]
theorem rise_take {l : List Bs} {m : Nat} {x y : Bs} (hx : l[m]? = some x) (hy : l[m + 1]? = some y) (h : riseB (l.take (m + 1)) = true) : riseB (l.take (m + 2)) = leB x y := by
  induction l generalizing m with
  | nil => simp at hx
  | cons a r ih =>
    match m with
    | 0 =>
      simp at hx
      subst hx
      cases r with
      | nil => simp at hy
      | cons b q =>
        simp at hy
        subst hy
        simp [riseB]
    | m + 1 =>
      simp at hx hy
      cases r with
      | nil => simp at hx
      | cons b q =>
        rw [show (a :: b :: q).take (m + 1 + 1) = a :: b :: q.take m from rfl, riseB, Bool.and_eq_true] at h
        have := ih hx hy (by rw [show (b :: q).take (m + 1) = b :: q.take m from rfl]; exact h.2)
        rw [show (a :: b :: q).take (m + 1 + 2) = a :: b :: q.take (m + 1) from rfl, riseB, h.1, Bool.true_and]
        exact this
theorem rise_false {l : List Bs} : ∀ {k : Nat}, riseB (l.take k) = false → riseB l = false := by
  induction l with
  | nil => intro k h; simpa using h
  | cons a r ih =>
    intro k h
    match k with
    | 0 => simp [riseB] at h
    | 1 => simp [riseB] at h
    | k + 2 =>
      cases r with
      | nil => simpa using h
      | cons b q =>
        rw [show (a :: b :: q).take (k + 2) = a :: b :: q.take k from rfl, riseB] at h
        rw [riseB]
        cases hl : leB a b with
        | false => rfl
        | true =>
          rw [hl, Bool.true_and] at h
          rw [Bool.true_and]
          exact ih (k := k + 1) h
set_option maxRecDepth 100000 in
set_option maxHeartbeats 4000000 in
theorem rising_any (l : List Bs) (b f cp : Nat) (w : World) (hl : l.length ≤ 3000000) (hc : ∀ j s, l[j]? = some s → w.cell? ⟨b, f + j, none⟩ = some (.string (bs s))) : Calls Tryz.prog 69 #[.slice (some ⟨b, f, none⟩) l.length cp] w fun e w' => e = .returned (okV (riseB l)) ∧ Below w.heap.size w w' := by
  have HC := Lib.hid hc
  clear hc
  go_enter Tryz.func69, Tryz.ntmps69
  go_wp2
  go_loopg [3] (l.length - 1) (fun gg s3 wr => ∃ i : Nat, 1 ≤ i ∧ gg = l.length - i ∧ s3 = .int .i64 i ∧ Aside (riseB (l.take i) = true) ∧ ∃ n, wr = w.drewN n)
  case atStart => exact ⟨1, Nat.le_refl _, rfl, rfl, (show riseB (l.take 1) = true by cases l <;> rfl), 0, rfl⟩
  case round =>
    obtain ⟨i, hi, rfl, rfl, HA, nd, rfl⟩ := hrel
    by_cases hlt : i < l.length
    · have hltz : (i : Int) < (l.length : Int) := by omega
      obtain ⟨m, hm⟩ : ∃ m, i = m + 1 := ⟨i - 1, by omega⟩
      subst hm
      obtain ⟨x, hx⟩ : ∃ x, l[m]? = some x := ⟨l[m]'(by omega), List.getElem?_eq_getElem (by omega)⟩
      obtain ⟨y, hy⟩ : ∃ y, l[m + 1]? = some y := ⟨l[m + 1]'(by omega), List.getElem?_eq_getElem (by omega)⟩
      have c0 := HC.out m x hx
      have c1 := HC.out (m + 1) y hy
      have hw : ∀ _ : True, IntKind.i64.wrap (m : Int) = (m : Int) := fun _ => by rw [IntKind.wrap_i64]; omega
      have hst := rise_take hx hy HA.out
      have hb : Op.bytesLess (bs y).toList (bs x).toList = !leB x y := by rw [bs_list, bs_list]; exact less_le x y
      have HST := Lib.hid hst
      generalize leB x y = B at *
      clear hx hy hst
      cases B with
      | true =>
        have hb2 : Op.bytesLess (bs y).toList (bs x).toList = false := hb
        clear hb
        go_wp2
        go_quiet (fail)
        go_wp2
        go_roundg (l.length - (m + 1 + 1))
        case measure => omega
        case rel => exact ⟨m + 1 + 1, by omega, rfl, by go_num, HST.out, _, rfl⟩
      | false =>
        have hb2 : Op.bytesLess (bs y).toList (bs x).toList = true := hb
        have HF := Lib.hid (rise_false HST.out)
        clear hb
        go_wp2
        go_quiet (fail)
        go_wp2
        go_ret
        rw [HF.out]
        exact ⟨rfl, ⟨rfl, rfl, rfl, Nat.le_refl _, fun _ _ => rfl⟩⟩
    · have hltz : ¬ (i : Int) < (l.length : Int) := by omega
      have HT : Hid (riseB l = true) := Lib.hid (by have := HA.out; rw [List.take_of_length_le (by omega)] at this; exact this)
      go_wp2
      go_ret
      rw [HT.out]
      exact ⟨rfl, ⟨rfl, rfl, rfl, Nat.le_refl _, fun _ _ => rfl⟩⟩
end Go.Proofs.YtebhiplcoioenaaGreatDoor
