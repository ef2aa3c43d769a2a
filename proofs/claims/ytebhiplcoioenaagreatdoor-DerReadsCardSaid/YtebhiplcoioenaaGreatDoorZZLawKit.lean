/- What the laws take: how much a value weighs that may be; readings that stay. -/
import Derived.Test.YtebhiplcoioenaaGreatDoorZZFixed
import Derived.Test.YtebhiplcoioenaaGreatDoorZZDeep
namespace Go.Proofs.YtebhiplcoioenaaGreatDoor
open Go.RowKit

theorem forms_wt : ∀ (F : Dr) (d : Nat), errsS F d = 0 → F.wt ≤ 2 * (formsS F).flatten.length
  | .nil, _, _ => Nat.zero_le _
  | .cons c t k b kids nx, d, h => by
    have hv := Dv.errs_one ⟨c, t, k, b, kids⟩ nx d
    simp only at hv
    rw [hv] at h
    by_cases he : (⟨c, t, k, b, kids⟩ : Dv).err d ≠ 0
    · rw [if_pos he] at h; exact absurd h he
    · rw [if_neg he] at h
      have he := Classical.byContradiction he
      have h1 := forms_wt nx d h
      have hh : headE c t k b kids.len d = 0 := by
        unfold Dv.err at he
        simp only at he
        by_cases q : headE c t k b kids.len d ≠ 0
        · rw [if_pos q] at he; exact absurd he q
        · exact Classical.byContradiction q
      obtain ⟨_, _, _, _, hkb, hkn, _⟩ := head_ok hh
      have hl := lenS_len (if k then (formsS kids).flatten else b).length
      simp only [formsS, List.flatten_cons, List.length_append, wholeS, List.length_cons, Dr.wt]
      cases k with
      | false =>
        have hn : kids = .nil := len_nil (hkn rfl)
        subst hn
        simp only [Bool.false_eq_true, if_false, Dr.wt] at hl ⊢
        omega
      | true =>
        have hb : b = [] := hkb rfl
        subst hb
        have hk : errsS kids (d + 1) = 0 := by
          unfold Dv.err at he
          simp only at he
          rw [if_neg (by rw [hh]; simp), if_neg (by simp)] at he
          by_cases q : errsS kids (d + 1) ≠ 0
          · rw [if_pos q] at he; exact absurd he q
          · exact Classical.byContradiction q
        have h2 := forms_wt kids (d + 1) hk
        simp only [if_true, List.length_nil] at hl ⊢
        omega
theorem Dv.one_wt (v : Dv) : v.one.wt = v.b.length + 4 + v.l.wt := by
  show v.b.length + 4 + v.l.wt + 0 = _
  omega
/-- How much a value weighs that may be. -/
theorem check_wt {v : Dv} (h : v.check = 0) : v.b.length + 4 + v.l.wt ≤ 32768 := by
  obtain ⟨h1, h2⟩ := Dv.check_ok h
  have h3 := forms_wt v.one 0 (by rw [Dv.errs_single]; exact h1)
  rw [Dv.one_wt, Dv.forms_single] at h3
  omega
theorem print_ok {v : Dv} (h : v.check = 0) : v.print = (v.form, 0) := by unfold Dv.print; rw [if_pos h]
theorem print_fell {v : Dv} (h : v.check ≠ 0) : v.print = ([], v.check) := by unfold Dv.print; rw [if_neg h]
/-- A value's cells, in all worlds that come behind. -/
theorem dcl_cells {w : World} {c t : Int} {k : Bool} {s : Bs} {l : Dr} {ad : Option Addr} {cp b f : Nat} (h0 : w.cell? ⟨b, f, none⟩ = some (.int .i64 c)) (h1 : w.cell? ⟨b, f + 1, none⟩ = some (.int .i64 t)) (h2 : w.cell? ⟨b, f + 2, none⟩ = some (.bool k)) (h3 : w.cell? ⟨b, f + 3, none⟩ = some (.string (bs s))) (h4 : w.cell? ⟨b, f + 4, none⟩ = some (.slice ad l.len cp)) :
    ∀ u : World, Below w.heap.size w u → ∀ (j : Nat) x, (dcl ⟨c, t, k, s, l⟩ ad cp)[j]? = some x → u.cell? ⟨b, f + j, none⟩ = some x := fun u hb j x hj => by
  have hlt : b < w.heap.size := World.block_lt_of_cell? w _ h0
  refine (hb.cell (p := ⟨b, f + j, none⟩) hlt).trans ?_
  unfold dcl at hj
  match j, hj with
  | 0, hj => cases hj; exact h0
  | 1, hj => cases hj; exact h1
  | 2, hj => cases hj; exact h2
  | 3, hj => cases hj; exact h3
  | 4, hj => cases hj; exact h4
  | j + 5, hj => cases hj
end Go.Proofs.YtebhiplcoioenaaGreatDoor
