/- Policies in memory of one's own: rows whose blocks are known to be of a kind; rows that grow. -/
import Derived.Test.YthpagppipifgeaaGreatDoorLTest
namespace Go.Proofs.YthpagppipifgeaaGreatDoor
open Go.RowKit

/-- As Row; and each block that it lies in is a Q. -/
def RowQ (Q : Nat → Prop) (w : World) : Fo → Nat → Nat → Prop
  | .nil, _, _ => True
  | .cons k o n t kids nx, b, f =>
    (Q b ∧ ∃ (ad : Option Addr) (c b1 f1 : Nat), w.cell? ⟨b, f, none⟩ = some (.int .i64 k) ∧ w.cell? ⟨b, f + 1, none⟩ = some (.int .i64 o) ∧ w.cell? ⟨b, f + 2, none⟩ = some (.string n)
      ∧ w.cell? ⟨b, f + 3, none⟩ = some (.string t) ∧ w.cell? ⟨b, f + 4, none⟩ = some (.slice ad kids.len c) ∧ n.size ≤ SB ∧ t.size ≤ SB ∧ kids.len ≤ c ∧ c ≤ MX
      ∧ (ad = some ⟨b1, f1, none⟩ ∨ (ad = ad ∧ kids.len = 0)) ∧ RowQ Q w kids b1 f1) ∧ RowQ Q w nx b (f + 5)
theorem RowQ.row {Q : Nat → Prop} {w : World} : ∀ {F : Fo} {b f : Nat}, RowQ Q w F b f → Row w F b f := by
  intro F
  induction F with
  | nil => exact fun _ => trivial
  | cons k o n t kids nx ih1 ih2 =>
    rintro b f ⟨⟨_, ad, c, b1, f1, h0, h1, h2, h3, h4, r1, r2, r3, r4, r5, r6⟩, hn⟩
    exact ⟨⟨ad, c, b1, f1, h0, h1, h2, h3, h4, r1, r2, r3, r4, r5, ih1 r6⟩, ih2 hn⟩
/-- It goes over into each world that holds the same in those blocks, and says of them what else is known. -/
theorem RowQ.same {Q Q' : Nat → Prop} {w w' : World} (hq : ∀ k, Q k → k < w.heap.size → Q' k) (hs : ∀ k, Q k → k < w.heap.size → w'.heap[k]? = w.heap[k]?) : ∀ {F : Fo} {b f : Nat}, RowQ Q w F b f → RowQ Q' w' F b f := by
  intro F
  induction F with
  | nil => exact fun _ => trivial
  | cons k o n t kids nx ih1 ih2 =>
    rintro b f ⟨⟨hQ, ad, c, b1, f1, h0, h1, h2, h3, h4, r1, r2, r3, r4, r5, r6⟩, hn⟩
    have hlt : b < w.heap.size := World.block_lt_of_cell? w _ h0
    have hc : ∀ i, w'.cell? ⟨b, f + i, none⟩ = w.cell? ⟨b, f + i, none⟩ := fun i => World.cell?_of_block (w := w) (w' := w') (hs b hQ hlt)
    exact ⟨⟨hq b hQ hlt, ad, c, b1, f1, (hc 0).trans h0, (hc 1).trans h1, (hc 2).trans h2, (hc 3).trans h3, (hc 4).trans h4, r1, r2, r3, r4, r5, ih1 r6⟩, ih2 hn⟩
structure SlQ (Q : Nat → Prop) (w : World) (F : Fo) (ad : Option Addr) (c : Nat) : Prop where
  le : F.len ≤ c
  cm : c ≤ MX
  at_ : ∃ b f, (ad = some ⟨b, f, none⟩ ∨ (ad = ad ∧ F.len = 0)) ∧ RowQ Q w F b f
theorem SlQ.slf {Q : Nat → Prop} {w : World} {F : Fo} {ad : Option Addr} {c : Nat} (h : SlQ Q w F ad c) : SlF w F ad c := by
  obtain ⟨h1, h2, b, f, h3, h4⟩ := h
  exact ⟨h1, h2, b, f, h3, h4.row⟩
theorem SlQ.same {Q Q' : Nat → Prop} {w w' : World} {F : Fo} {ad : Option Addr} {c : Nat} (h : SlQ Q w F ad c) (hq : ∀ k, Q k → k < w.heap.size → Q' k) (hs : ∀ k, Q k → k < w.heap.size → w'.heap[k]? = w.heap[k]?) : SlQ Q' w' F ad c := by
  obtain ⟨h1, h2, b, f, h3, h4⟩ := h
  exact ⟨h1, h2, b, f, h3, h4.same hq hs⟩
theorem SlQ.nil (Q : Nat → Prop) (w : World) : SlQ Q w .nil none 0 := ⟨Nat.le_refl _, by decide, 0, 0, Or.inr ⟨rfl, rfl⟩, trivial⟩

/-- The cells of a policy. -/
def pcl (p : Po) (ad : Option Addr) (c : Nat) : List Value := [.int .i64 p.k, .int .i64 p.o, .string p.n, .string p.t, .slice ad p.kids.len c]
def Fo.snoc : Fo → Po → Fo
  | .nil, p => .cons p.k p.o p.n p.t p.kids .nil
  | .cons k o n t kids nx, p => .cons k o n t kids (nx.snoc p)
theorem Fo.snoc_len (F : Fo) (p : Po) : (F.snoc p).len = F.len + 1 := by
  induction F with
  | nil => rfl
  | cons k o n t kids nx _ ih => simp only [Fo.snoc, Fo.len]; omega
/-- The cells of a list of policies, one policy behind the other. -/
def Chk (Q : Nat → Prop) (w : World) : Fo → List Value → Prop
  | .nil, xs => xs = []
  | .cons k o n t kids nx, xs => ∃ (ad : Option Addr) (c : Nat) (ys : List Value), xs = pcl ⟨k, o, n, t, kids⟩ ad c ++ ys ∧ n.size ≤ SB ∧ t.size ≤ SB ∧ SlQ Q w kids ad c ∧ Chk Q w nx ys
theorem Chk.same {Q Q' : Nat → Prop} {w w' : World} (hq : ∀ k, Q k → k < w.heap.size → Q' k) (hs : ∀ k, Q k → k < w.heap.size → w'.heap[k]? = w.heap[k]?) : ∀ {F : Fo} {xs : List Value}, Chk Q w F xs → Chk Q' w' F xs := by
  intro F
  induction F with
  | nil => exact fun h => h
  | cons k o n t kids nx _ ih =>
    rintro xs ⟨ad, c, ys, h1, h2, h3, h4, h5⟩
    exact ⟨ad, c, ys, h1, h2, h3, h4.same hq hs, ih h5⟩
theorem Chk.snoc {Q : Nat → Prop} {w : World} {p : Po} {ad : Option Addr} {c : Nat} (hn : p.n.size ≤ SB) (ht : p.t.size ≤ SB) (hk : SlQ Q w p.kids ad c) : ∀ {F : Fo} {xs : List Value}, Chk Q w F xs → Chk Q w (F.snoc p) (xs ++ pcl p ad c) := by
  intro F
  induction F with
  | nil => intro xs h; obtain rfl : xs = [] := h; exact ⟨ad, c, [], by simp, hn, ht, hk, rfl⟩
  | cons k o n t kids nx _ ih =>
    rintro xs ⟨a1, c1, ys, rfl, h2, h3, h4, h5⟩
    exact ⟨a1, c1, ys ++ pcl p ad c, by simp [pcl], h2, h3, h4, ih h5⟩
theorem Chk.len {Q : Nat → Prop} {w : World} : ∀ {F : Fo} {xs : List Value}, Chk Q w F xs → xs.length = F.len * 5 := by
  intro F
  induction F with
  | nil => intro xs h; obtain rfl : xs = [] := h; rfl
  | cons k o n t kids nx _ ih =>
    rintro xs ⟨a1, c1, ys, rfl, h2, h3, h4, h5⟩
    have := ih h5
    simp only [pcl, List.length_append, List.length_cons, List.length_nil, Fo.len]; omega
/-- Such cells in a block make a row. -/
theorem Chk.row {Q : Nat → Prop} {w : World} {g : Nat} (hQ : Q g) : ∀ {F : Fo} {xs : List Value} {f : Nat}, Chk Q w F xs → (∀ j v, xs[j]? = some v → w.cell? ⟨g, f + j, none⟩ = some v) → RowQ Q w F g f := by
  intro F
  induction F with
  | nil => exact fun _ _ => trivial
  | cons k o n t kids nx _ ih =>
    rintro xs f ⟨ad, c, ys, rfl, h2, h3, ⟨h4, h5, b1, f1, h6, h7⟩, h8⟩ hc
    refine ⟨⟨hQ, ad, c, b1, f1, hc 0 _ rfl, hc 1 _ rfl, hc 2 _ rfl, hc 3 _ rfl, hc 4 _ rfl, h2, h3, h4, h5, h6, h7⟩, ih h8 fun j v hj => ?_⟩
    have := hc (5 + j) v (by
      rw [List.getElem?_append_right (by simp [pcl])]
      simpa [pcl] using hj)
    rwa [show f + (5 + j) = f + 5 + j by omega] at this
theorem Chk.slq {Q : Nat → Prop} {w : World} {B : Nat} {e : TypeId} {F : Fo} {xs : List Value} {v : Value} (h : Chk Q w F xs) (hown : w.ownsRow B e 5 v F.len xs) (hQ : ∀ g c, v = .slice (some ⟨g, 0, none⟩) F.len c → Q g) : ∃ ad c, v = .slice ad F.len c ∧ SlQ Q w F ad c := by
  obtain ⟨h1, ⟨hv, h0⟩ | ⟨g, cap, cur, hv, hg, hh, hnc, hcm, hcs, ht⟩⟩ := hown
  · have hF : F = .nil := by cases F with | nil => rfl | cons => simp [Fo.len] at h0
    subst hF
    exact ⟨none, 0, hv, SlQ.nil Q w⟩
  · refine ⟨_, _, hv, hnc, hcm, g, 0, Or.inl rfl, h.row (hQ g cap hv) fun j v hj => ?_⟩
    have hjl : j < xs.length := (List.getElem?_eq_some_iff.1 hj).1
    rw [Nat.zero_add]
    simp only [World.cell?, hh]
    rw [← ht, List.getElem?_take] at hj
    split at hj
    · simpa using hj
    · cases hj
end Go.Proofs.YthpagppipifgeaaGreatDoor
