/- strings.NewReplacer at the program's four words: the walk. -/
import Derived.Test.YthpagppipifgeaaGreatDoorZLText
import Derived.Laws.AppendOwn
namespace Go.Proofs.YthpagppipifgeaaGreatDoor
open Go.RowKit

theorem info_str2 : (Tryz.prog.info? 9).map (fun i => (i.zero, i.size, i.bytes)) = some (some (.string ⟨#[]⟩), 1, 16) := by kernel_rfl
set_option maxRecDepth 100000 in
set_option maxHeartbeats 4000000 in
theorem new_ok : NewOk := by
  intro g w hc
  obtain ⟨i0, hi, hz0, hz1, hz2⟩ := info_parts info_str2
  have HC := Lib.hid hc
  have hgl : g < w.heap.size := (Array.getElem?_eq_some_iff.1 hc).1
  clear hc
  go_enter Tryz.func41, Tryz.ntmps41
  go_wp2_with (at_builtin; refine wpList_append_own _ rfl _ _ 43 rfl w.heap.size 9 i0 (.string ⟨#[]⟩) 1 16 Tryz.underlying43 hi hz0 hz1 hz2 rfl (by decide) _ 0 [] rfl (World.ownsRow_nil _ _ _ _) ⟨g, 0, none⟩ 4 4 [.string ⟨#[34]⟩, .string ⟨#[92, 34]⟩, .string ⟨#[92]⟩, .string ⟨#[92, 92]⟩] rfl rfl ?c1 ?c2 ?c3 (by omega) ?c5 ?_)
  case c1 =>
    intro j u hj
    have h0 := HC.out
    match j, hj with
    | 0, hj => simp at hj; subst hj; simp [World.cell?, Addr.add, h0]
    | 1, hj => simp at hj; subst hj; simp [World.cell?, Addr.add, h0]
    | 2, hj => simp at hj; subst hj; simp [World.cell?, Addr.add, h0]
    | 3, hj => simp at hj; subst hj; simp [World.cell?, Addr.add, h0]
  case c2 => intro u hu; simp at hu; rcases hu with rfl | rfl | rfl | rfl <;> rfl
  case c3 => unfold maxLen; omega
  case c5 => simp
  intro v' w2 hown hgr _
  obtain ⟨hl1, ⟨_, h0⟩ | ⟨s, cap, cur, rfl, hg, hh, hnc, hcm, hcs, htk⟩⟩ := hown
  · omega
  have hsl : s < w2.heap.size := (Array.getElem?_eq_some_iff.1 hh).1
  have HH := Lib.hid (And.intro hh (And.intro hnc htk))
  have hb2 : Below w.heap.size w w2 := (Below.refl w.heap.size w).grown hgr (Nat.le_refl _) (fun q hq => by cases hq)
  have HB := Lib.hid hb2
  clear hh hnc hcm hcs htk hl1 hgr hb2
  go_wp2_with fail
  go_ret
  obtain ⟨hh, hnc, htk⟩ := HH.out
  have hB := HB.out
  have hcl : ∀ (i : Nat) (x : Value), [Value.string ⟨#[34]⟩, .string ⟨#[92, 34]⟩, .string ⟨#[92]⟩, .string ⟨#[92, 92]⟩][i]? = some x → i < 4 →
      (w2.alloc (.cells #[.int .u32 0, .int .i32 0, .int .u32 0, .nilIface, .slice (some ⟨s, 0, none⟩) 4 cap] 116)).cell? ⟨s, i, none⟩ = some x := fun i x hx hi4 => by
    rw [← htk, List.getElem?_take, if_pos (by omega)] at hx
    rw [(b_alloc w2 _).cell (p := ⟨s, i, none⟩) hsl]
    simp only [World.cell?, hh]
    simpa using hx
  refine ⟨⟨w2.heap.size, rfl, ⟨s, cap, heap_alloc_new _ _, hsl, hnc, hcl 0 _ rfl (by decide), hcl 1 _ rfl (by decide), hcl 2 _ rfl (by decide), hcl 3 _ rfl (by decide)⟩, hB.size⟩, ?_⟩
  exact b_trans hB (b_alloc w2 _)
end Go.Proofs.YthpagppipifgeaaGreatDoor
