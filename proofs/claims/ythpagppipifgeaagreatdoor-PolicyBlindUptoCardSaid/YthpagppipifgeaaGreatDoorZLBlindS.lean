/- Plain: what holds hangs on the facts that are named alone. -/
import Derived.Test.YthpagppipifgeaaGreatDoorZLBlindR
import Derived.Test.YthpagppipifgeaaGreatDoorZLB
namespace Go.Proofs.YthpagppipifgeaaGreatDoor
open Go.RowKit

theorem ba_eq {a b : ByteArray} (h : a.toList = b.toList) : a = b := by
  rw [dl, dl] at h
  cases a with | mk a => cases b with | mk b => simp at h; simp [h]
/-- The facts that are laid behind. -/
def pkd (q k o : Int) (n : ByteArray) (F : Fo) (l more : List Fact) : List Fact := more.filter fun f => (namesP q f.1 k o n F == hasL l f.1) || hasL l f.1
theorem look_blind {m : List Fact} {n : ByteArray} : ∀ {l : List Fact}, (∀ f ∈ m, hasL l f.1 = false → f.1 ≠ n) → lookF (l ++ m) n = lookF l n := by
  intro l
  induction l with
  | nil =>
    intro hm
    show lookF m n = []
    induction m with
    | nil => rfl
    | cons f r ih =>
      have h1 : ¬ f.1.toList = n.toList := fun h => hm f (List.mem_cons_self ..) rfl (ba_eq h)
      unfold lookF
      rw [if_neg h1]
      exact ih fun g hg => hm g (List.mem_cons_of_mem _ hg)
  | cons x r ih =>
    intro hm
    show (if x.1.toList = n.toList then x.2 else lookF (r ++ m) n) = (if x.1.toList = n.toList then x.2 else lookF r n)
    by_cases hx : x.1.toList = n.toList
    · rw [if_pos hx, if_pos hx]
    · rw [if_neg hx, if_neg hx]
      refine ih fun f hf h0 e => ?_
      by_cases hxf : x.1.toList = f.1.toList
      · exact hx (by rw [hxf, e])
      · refine hm f hf ?_ e
        show (decide (x.1.toList = f.1.toList) || hasL r f.1) = false
        rw [h0, decide_eq_false hxf]; rfl
/-- The same facts, and further ones that the policy doesn't look at. -/
structure Blind (x y : Fx) (N : Int → ByteArray → Bool) : Prop where
  m : y.m = x.m
  p : y.p = x.p
  cl : ∃ m, y.cl = x.cl ++ m ∧ ∀ f ∈ m, hasL x.cl f.1 = false → N 2 f.1 = false
  ce : ∃ m, y.ce = x.ce ++ m ∧ ∀ f ∈ m, hasL x.ce f.1 = false → N 3 f.1 = false
theorem texts_blind {x y : Fx} {N : Int → ByteArray → Bool} (h : Blind x y N) (o : Int) (n : ByteArray) (h0 : 0 ≤ o) (h1 : o < 4) (hn : N o n = true) : textsP o n y = textsP o n x := by
  unfold textsP
  by_cases o0 : o = 0
  · rw [if_pos o0, if_pos o0, h.m]
  by_cases o1 : o = 1
  · rw [if_neg o0, if_neg o0, if_pos o1, if_pos o1, h.p]
  by_cases o3 : o = 3
  · rw [if_neg o0, if_neg o0, if_neg o1, if_neg o1, if_pos o3, if_pos o3]
    obtain ⟨m, hm, hb⟩ := h.ce
    rw [hm]
    refine look_blind fun f hf hh e => ?_
    have := hb f hf hh
    rw [e, ← o3, hn] at this
    cases this
  · obtain rfl : o = 2 := by omega
    rw [if_neg o0, if_neg o0, if_neg o1, if_neg o1, if_neg o3, if_neg o3]
    obtain ⟨m, hm, hb⟩ := h.cl
    rw [hm]
    refine look_blind fun f hf hh e => ?_
    have := hb f hf hh
    rw [e, hn] at this
    cases this
theorem node_blind {x y : Fx} {N : Int → ByteArray → Bool} (h : Blind x y N) {k o : Int} {n t : ByteArray} {l : Nat} {mm : Bool} (hm : nodeB k o n t l mm = true) (hn : ∀ q nm, namesN q nm k o n = true → N q nm = true) (a : Bool × Bool) : holdN y k o n t a = holdN x k o n t a := by
  unfold holdN
  by_cases k0 : k = 0
  · rw [if_pos k0, if_pos k0]
  by_cases k1 : k = 1
  · rw [if_neg k0, if_neg k0, if_pos k1, if_pos k1]
  by_cases k2 : k = 2
  · rw [if_neg k0, if_neg k0, if_neg k1, if_neg k1, if_pos k2, if_pos k2]
  by_cases k3 : k = 3
  · rw [if_neg k0, if_neg k0, if_neg k1, if_neg k1, if_neg k2, if_neg k2, if_pos k3, if_pos k3]
  · rw [if_neg k0, if_neg k0, if_neg k1, if_neg k1, if_neg k2, if_neg k2, if_neg k3, if_neg k3]
    unfold nodeB at hm
    rw [if_neg k0, if_neg k1, if_neg (by omega)] at hm
    split at hm
    · next h4 =>
      simp only [Bool.and_eq_true, decide_eq_true_eq] at hm
      rw [texts_blind h o n hm.1.1.1.2 hm.1.1.2 (hn o n (by unfold namesN; simp; omega))]
    · cases hm
theorem hold_blind {x y : Fx} {N : Int → ByteArray → Bool} (h : Blind x y N) (F : Fo) (hm : F.may = true) (hn : ∀ q nm, F.names q nm = true → N q nm = true) : F.hold y = F.hold x := by
  induction F with
  | nil => rfl
  | cons k o n t kids nx ih1 ih2 =>
    have hmm : nodeB k o n t kids.len kids.may = true ∧ nx.may = true := by simpa [Fo.may] using hm
    have hk : kids.may = true := by
      rcases may_nil (F := kids) hmm.1 with h | h
      · exact h
      · rw [h]; rfl
    have hn1 : ∀ q nm, namesN q nm k o n = true → N q nm = true := fun q nm h => hn q nm (by simp [Fo.names, h])
    have e1 := ih1 hk fun q nm h => hn q nm (by simp [Fo.names, h])
    have e2 := ih2 hmm.2 fun q nm h => hn q nm (by simp [Fo.names, h])
    simp only [Fo.hold, e1, e2, node_blind h hmm.1 hn1]
theorem holds_blind (x y : Fx) (k o : Int) (n t : ByteArray) (F : Fo) (h : Blind x y (fun q nm => namesP q nm k o n F)) : holdsP y k o n t F = holdsP x k o n t F := by
  unfold holdsP
  by_cases hc : chkP k o n t F = 0
  · have hm : mayP k o n t F = true := by
      unfold chkP at hc
      split at hc
      · assumption
      · omega
    have hk : F.may = true := by
      rcases may_nil hm with h | h
      · exact h
      · rw [h]; rfl
    have e := hold_blind h F hk fun q nm hq => by show (namesN q nm k o n || F.names q nm) = true; rw [hq, Bool.or_true]
    unfold holdP
    rw [e, node_blind h hm fun q nm hq => by show (namesN q nm k o n || F.names q nm) = true; rw [hq]; rfl]
  · rw [decide_eq_false hc]; rfl
theorem pkd_blind (q k o : Int) (n : ByteArray) (F : Fo) (l more : List Fact) : ∀ f ∈ pkd q k o n F l more, hasL l f.1 = false → namesP q f.1 k o n F = false := by
  intro f hf hh
  have := (List.mem_filter.1 hf).2
  rw [hh] at this
  cases hv : namesP q f.1 k o n F with
  | false => rfl
  | true => rw [hv] at this; cases this
theorem pkd_step {q k o : Int} {n : ByteArray} {F : Fo} {l more : List Fact} {i : Nat} {f : Fact} (hf : more[i]? = some f) :
    pkd q k o n F l (more.take (i + 1)) = pkd q k o n F l (more.take i) ++ (if (namesP q f.1 k o n F == hasL l f.1) || hasL l f.1 then [f] else []) := by
  obtain ⟨hi, rfl⟩ := List.getElem?_eq_some_iff.1 hf
  unfold pkd
  rw [List.take_succ_eq_append_getElem hi, List.filter_append, List.filter_cons, List.filter_nil]
theorem pkd_len (q k o : Int) (n : ByteArray) (F : Fo) (l more : List Fact) : (pkd q k o n F l more).length ≤ more.length := List.length_filter_le ..
end Go.Proofs.YthpagppipifgeaaGreatDoor
