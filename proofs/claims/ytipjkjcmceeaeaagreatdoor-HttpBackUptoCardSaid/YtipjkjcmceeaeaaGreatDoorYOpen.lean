/- Requests, replies and lists that came in: opened, and read behind the call as before. -/
import Derived.Test.YtipjkjcmceeaeaaGreatDoorPost
import Derived.Test.YtipjkjcmceeaeaaGreatDoorYReq
import Derived.SizedLaws
import Derived.ChangeMaps5
import Derived.Carry
namespace Go.Proofs.YtipjkjcmceeaeaaGreatDoor
open Go.ChangeShapes Go.WideShapes Go.ChangeAt Go.RowKit

section
variable {H : Type} {enc : TypeId × Value → H} {w : World} {base : Nat} {spare : Nat → Bool} {held : Bool}
def Fits (P : Program) (t : TypeId) (d : DataW H) : Prop := (d.weights P t).all (· ≤ reachBytes) = true
theorem fits_str {s : ByteArray} {P : Program} {t : TypeId} (h : Fits P t (DataW.lit (H := H) (.string s.data.toList))) : s.size ≤ SB := by
  have := List.all_eq_true.1 h s.data.toList.length (by simp [DataW.weights])
  have := of_decide_eq_true this
  have e : s.data.toList.length = s.size := by simp
  have hs := SB_eq
  unfold reachBytes at this; omega
/-- A reading of a slice's elements. -/
theorem elem_cells {a : Addr} {z i n : Nat} {e : TypeId} {y : Option (DataW H × List MemPlace)} {P : Program} (hz : 0 < z) (h : (w.cells? base (a.add (i * z)) z).bind (DataW.trod enc P w base spare held n e) = y) (hy : y.isSome = true) :
    ∃ cs x, y = some x ∧ cs.length = z ∧ (∀ j, j < z → w.cell? ⟨a.block, a.off + i * z + j, none⟩ = cs[j]?) ∧ DataW.trod enc P w base spare held n e cs = some x ∧ (i = 0 → a.spot = none) := by
  cases hc : w.cells? base (a.add (i * z)) z with
  | none => rw [hc] at h; simp at h; rw [← h] at hy; simp at hy
  | some cs =>
    rw [hc] at h
    simp only [Option.bind_some] at h
    obtain ⟨x, rfl⟩ := Option.isSome_iff_exists.1 hy
    obtain ⟨_, hl, hg⟩ := World.cells?_some hc
    have hsp : i = 0 → a.spot = none := by
      intro hi
      subst hi
      have h0 := hg 0 hz
      rw [List.getElem?_eq_getElem (by omega)] at h0
      simp only [Nat.zero_mul, Addr.add, if_true] at h0
      unfold World.cell? at h0
      split at h0
      · split at h0
        · cases h0
        · next hs => simpa using hs
      · cases h0
    refine ⟨cs, x, rfl, hl, fun j hj => ?_, h, hsp⟩
    rw [← hg j hj]
    unfold Addr.add
    by_cases hi : i * z = 0
    · rw [if_pos hi]
      have hi0 : i = 0 := by rcases Nat.mul_eq_zero.1 hi with h | h; exact h; omega
      have hs := hsp hi0
      by_cases hj0 : j = 0
      · rw [if_pos hj0, hj0]
        obtain ⟨bl, of, sp⟩ := a
        simp only at hs; subst hs
        simp [hi]
      · rw [if_neg hj0]; simp [hi]
    · rw [if_neg hi]
      by_cases hj0 : j = 0
      · rw [if_pos hj0, hj0]; rfl
      · rw [if_neg hj0]
theorem bulkAll_drop (l : List (DataW H)) : Rows.uptoBulkAll l = (l.map Rows.uptoBulk).sum := by
  induction l with
  | nil => simp [Rows.uptoBulkAll]
  | cons x r ih => simp [Rows.uptoBulkAll, ih]
theorem weightsAll_mem {P : Program} {e : TypeId} : ∀ {l : List (DataW H)} {d : DataW H}, d ∈ l → ∀ n ∈ d.weights P e, n ∈ DataW.weightsAll P e l
  | d :: r, _, .head _, n, hn => by simp only [DataW.weightsAll, List.mem_append]; exact Or.inl hn
  | d :: r, d', .tail _ h, n, hn => by simp only [DataW.weightsAll, List.mem_append]; exact Or.inr (weightsAll_mem h n hn)
theorem fits_elem {P : Program} {t e : TypeId} {elems rest : List (DataW H)} (hu : P.underlying t = some (.slice e)) (h : Fits P t (DataW.slice elems rest)) : (elems.length + rest.length) * P.bytesOf e ≤ reachBytes ∧ ∀ d ∈ elems, Fits P e d := by
  unfold Fits at h
  simp only [DataW.weights, hu, List.all_cons, List.all_append, Bool.and_eq_true] at h
  refine ⟨of_decide_eq_true h.1, fun d hd => ?_⟩
  refine List.all_eq_true.2 fun n hn => ?_
  exact List.all_eq_true.1 h.2.1 n (weightsAll_mem hd n hn)
theorem fits_part {P : Program} {t : TypeId} {fs : Array Field} {parts : List (DataW H)} (hu : P.underlying t = some (.struct fs)) (h : Fits P t (DataW.agg parts)) {i : Nat} {f : Field} {d : DataW H} (hf : fs[i]? = some f) (hd : parts[i]? = some d) : Fits P f.type d := by
  unfold Fits at h
  simp only [DataW.weights, hu] at h
  refine List.all_eq_true.2 fun n hn => ?_
  refine List.all_eq_true.1 h n (DataW.weights_mem_each (j := i) (t := f.type) ?_ hd n hn)
  rw [List.getElem?_map, Array.getElem?_toList, hf]; rfl
end
theorem laidOut : laidOutB Tryz.prog = true := by kernel_rfl
theorem post_new2 {H : Type} {enc : TypeId × Value → H} {P : Program} {f : Func} {s : ChangeSpec} {apart fresh handsOn : Bool} {W W' : World} {args : Array Value} {v : Value} {ds gs : List (DataW H)} {before pa pv : List MemPlace}
    (hW : DataW.Whole enc P f.params.toList s.vars apart W args.toList ds gs before) (hb : Below W.heap.size W W') (hps : before = pa ++ pv)
    (hres : ∀ (b : Nat) (sp : Nat → Bool) (hd : Bool), DataW.TrodAll enc P W' b sp hd f.resultTypes.toList (v.resultList f.resultTypes.size) (s.fn H (ds ++ gs)).results [])
    (hargs : DataW.TrodAll enc P W' 0 (fun b => decide (b < W.heap.size)) true f.params.toList args.toList (s.fn H (ds ++ gs)).args pa)
    (hvars : ∀ sp : Nat → Bool, (∀ p ∈ before, sp p.block = true) → DataW.TrodVars enc P W' sp s.vars (s.fn H (ds ++ gs)).vars pv) :
    s.post enc P f apart fresh handsOn false W args v W' := by
  have hin : ∀ p ∈ before, (fun b => decide (b < W.heap.size)) p.block = true := fun p hp => decide_eq_true (hW.lt p hp)
  refine ⟨ds, gs, before, [], pa, pv, hW, hres _ _ _, hargs, hvars _ hin, World.keptBut_mono (fun p hp => ⟨hp, Or.inr ?_⟩) (hb.frame (· ∈ before)), fun h => by cases h⟩
  rw [hps, List.mem_append] at hp
  exact hp
theorem carry {H : Type} {enc : TypeId × Value → H} {P : Program} {t : TypeId} (hl : laidOutB P = true) (hr : P.readableRec t = true) (hrow : t < P.types.size) {W W' : World} {v : Value} {d : DataW H} {ps : List MemPlace}
    (h : DataW.Trod enc P W 0 (fun _ => true) true t v d ps) (hb : Below W.heap.size W W') (hlt : ∀ x ∈ ps, x.block < W.heap.size) :
    DataW.Trod enc P W' 0 (fun b => decide (b < W.heap.size)) true t v d ps := Below.trod hl hr hrow h hb hlt
theorem fits_arg {H : Type} {P : Program} {ts vs : List TypeId} {ds gs : List (DataW H)} (hz : (DataW.weightsEach P (ts ++ vs) (ds ++ gs)).all (· ≤ reachBytes) = true) (j : Nat) {t : TypeId} {d : DataW H} (ht : (ts ++ vs)[j]? = some t) (hd : (ds ++ gs)[j]? = some d) : Fits P t d :=
  List.all_eq_true.2 fun n hn => List.all_eq_true.1 hz n (DataW.weights_mem_each ht hd n hn)
end Go.Proofs.YtipjkjcmceeaeaaGreatDoor
