/- LTurnS LLogicS, in one text. -/
import Derived.Test.YthpagppipifgeaaGreatDoorZLTurn
import Derived.Test.YthpagppipifgeaaGreatDoorZLFacts
/- Plain: a policy turned about may be, and holds, as it did. -/
namespace Go.Proofs.YthpagppipifgeaaGreatDoor
open Go.RowKit

theorem snoc_may (F : Fo) (p : Po) : (F.snoc p).may = (F.may && nodeB p.k p.o p.n p.t p.kids.len p.kids.may) := by
  induction F with
  | nil => simp [Fo.snoc, Fo.may]
  | cons k o n t kids nx _ ih => simp only [Fo.snoc, Fo.may, ih]; rw [Bool.and_assoc]
theorem turn_may (F : Fo) : F.turn.may = F.may := by
  induction F with
  | nil => rfl
  | cons k o n t kids nx ih1 ih2 => simp only [Fo.turn, snoc_may, Fo.may, ih1, ih2, Fo.turn_len]; rw [Bool.and_comm]
theorem snoc_cnt (F : Fo) (p : Po) : (F.snoc p).cnt = F.cnt + p.kids.cnt + 1 := by
  induction F with
  | nil => simp [Fo.snoc, Fo.cnt]
  | cons k o n t kids nx _ ih => simp only [Fo.snoc, Fo.cnt, ih]; omega
theorem turn_cnt (F : Fo) : F.turn.cnt = F.cnt := by
  induction F with
  | nil => rfl
  | cons k o n t kids nx ih1 ih2 => simp only [Fo.turn, snoc_cnt, Fo.cnt, ih1, ih2]; omega
/-- The count goes round; but for that it is the nodes' number. -/
theorem nds_mod (F : Fo) : ∀ a : Int, (F.nds a - a - F.cnt) % 18446744073709551616 = 0 := by
  induction F with
  | nil => intro a; simp [Fo.nds, Fo.cnt]
  | cons k o n t kids nx ih1 ih2 =>
    intro a
    have h1 := ih1 0
    have h2 := ih2 (wrap64 (a + wrap64 (kids.nds 0 + 1)))
    simp only [Fo.nds, Fo.cnt]
    unfold wrap64 at *
    push_cast
    omega
theorem ndsP_cnt (F : Fo) : ndsP F = wrap64 (F.cnt + 1) := by
  have h := nds_mod F 0
  unfold ndsP wrap64
  omega
theorem dep_max (F : Fo) : ∀ a b : Int, F.dep (max a b) = max a (F.dep b) := by
  induction F with
  | nil => intro a b; rfl
  | cons k o n t kids nx _ ih => intro a b; simp only [Fo.dep]; rw [Int.max_assoc, ih]
theorem snoc_dep (F : Fo) (p : Po) : ∀ a : Int, (F.snoc p).dep a = max (F.dep a) (wrap64 (p.kids.dep 0 + 1)) := by
  induction F with
  | nil => intro a; rfl
  | cons k o n t kids nx _ ih => intro a; simp only [Fo.snoc, Fo.dep, ih]
theorem turn_dep (F : Fo) : F.turn.dep 0 = F.dep 0 := by
  induction F with
  | nil => rfl
  | cons k o n t kids nx ih1 ih2 =>
    simp only [Fo.turn, snoc_dep, Fo.dep, ih1, ih2]
    rw [Int.max_comm 0, dep_max, Int.max_comm]
theorem turn_chk (k o : Int) (n t : ByteArray) (F : Fo) : chkP k o n t F.turn = chkP k o n t F := by
  unfold chkP mayP smallP
  rw [ndsP_cnt, ndsP_cnt, turn_cnt, turn_may, F.turn_len]
  unfold depP
  rw [turn_dep]
theorem snoc_hold (x : Fx) (F : Fo) (p : Po) : (F.snoc p).hold x = ((F.hold x).1 && holdN x p.k p.o p.n p.t (p.kids.hold x), (F.hold x).2 || holdN x p.k p.o p.n p.t (p.kids.hold x)) := by
  induction F with
  | nil => simp [Fo.snoc, Fo.hold]
  | cons k o n t kids nx _ ih => simp only [Fo.snoc, Fo.hold, ih]; rw [Bool.and_assoc, Bool.or_assoc]
theorem turn_hold (x : Fx) (F : Fo) : F.turn.hold x = F.hold x := by
  induction F with
  | nil => rfl
  | cons k o n t kids nx ih1 ih2 => simp only [Fo.turn, snoc_hold, Fo.hold, ih1, ih2]; rw [Bool.and_comm, Bool.or_comm]
theorem turn_holds (x : Fx) (k o : Int) (n t : ByteArray) (F : Fo) : holdsP x k o n t F.turn = holdsP x k o n t F := by
  unfold holdsP holdP
  rw [turn_chk, turn_hold]
end Go.Proofs.YthpagppipifgeaaGreatDoor
/- Plain: not, and, or of policies. -/
namespace Go.Proofs.YthpagppipifgeaaGreatDoor
open Go.RowKit

def Po.fo (p : Po) (nx : Fo) : Fo := .cons p.k p.o p.n p.t p.kids nx
/-- How deep a forest is, where no number goes round. -/
def Fo.dpt : Fo → Nat
  | .nil => 0
  | .cons _ _ _ _ kids nx => max (kids.dpt + 1) nx.dpt
theorem dpt_le (F : Fo) : F.dpt ≤ F.cnt := by
  induction F with
  | nil => exact Nat.le_refl _
  | cons k o n t kids nx ih1 ih2 => simp only [Fo.dpt, Fo.cnt]; omega
theorem dep_dpt (F : Fo) (h : F.cnt ≤ 1000000) : ∀ a : Int, 0 ≤ a → F.dep a = max a (F.dpt : Int) := by
  induction F with
  | nil => intro a ha; simp only [Fo.dep, Fo.dpt]; omega
  | cons k o n t kids nx ih1 ih2 =>
    intro a ha
    simp only [Fo.cnt] at h
    have h1 := ih1 (by omega) 0 (by omega)
    have hd := dpt_le kids
    have e : wrap64 (kids.dep 0 + 1) = (kids.dpt : Int) + 1 := by rw [h1]; unfold wrap64; omega
    simp only [Fo.dep, Fo.dpt, e]
    rw [ih2 (by omega) _ (by omega)]
    omega
theorem depP_dpt (F : Fo) (h : F.cnt ≤ 1000000) : depP F = (F.dpt : Int) + 1 := by
  unfold depP
  have := dpt_le F
  rw [dep_dpt F h 0 (by omega)]
  unfold wrap64
  omega
theorem ndsP_nat (F : Fo) (h : F.cnt ≤ 1000000) : ndsP F = (F.cnt : Int) + 1 := by
  rw [ndsP_cnt]; unfold wrap64; omega
def Po.may (p : Po) : Bool := mayP p.k p.o p.n p.t p.kids
def Po.ok (p : Po) : Prop := p.may = true ∧ p.kids.cnt + 1 ≤ 64 ∧ p.kids.dpt + 1 ≤ 16
abbrev Po.chk (p : Po) : Int := chkP p.k p.o p.n p.t p.kids
theorem chk_ok (p : Po) (h : p.kids.cnt ≤ 1000000) : p.chk = 0 ↔ p.ok := by
  unfold Po.chk chkP Po.ok Po.may smallP
  rw [ndsP_nat _ h, depP_dpt _ h]
  cases mayP p.k p.o p.n p.t p.kids
  · simp
  · simp only [if_true, true_and]
    by_cases h1 : ((p.kids.cnt : Int) + 1 ≤ 64) <;> by_cases h2 : ((p.kids.dpt : Int) + 1 ≤ 16) <;> simp [h1, h2] <;> omega
def nP (p : Po) : Po := ⟨1, 0, e0, e0, p.fo .nil⟩
def bP (k : Int) (p q : Po) : Po := ⟨k, 0, e0, e0, p.fo (q.fo .nil)⟩
theorem fo_may (p : Po) (F : Fo) : (p.fo F).may = (p.may && F.may) := rfl
theorem fo_cnt (p : Po) (F : Fo) : (p.fo F).cnt = p.kids.cnt + F.cnt + 1 := rfl
theorem fo_dpt (p : Po) (F : Fo) : (p.fo F).dpt = max (p.kids.dpt + 1) F.dpt := rfl
theorem plain0 : plainB 0 e0 e0 = true := by decide +kernel
theorem n_may (p : Po) : (nP p).may = p.may := by
  show nodeB 1 0 e0 e0 1 (p.fo .nil).may = _
  rw [fo_may]
  unfold nodeB
  rw [plain0]
  simp [Fo.may]
theorem b_may (k : Int) (hk : k = 2 ∨ k = 3) (p q : Po) : (bP k p q).may = (p.may && q.may) := by
  show nodeB k 0 e0 e0 2 (p.fo (q.fo .nil)).may = _
  rw [fo_may, fo_may]
  unfold nodeB
  rw [plain0]
  rcases hk with rfl | rfl <;> simp [Fo.may]
theorem n_ok (p : Po) : (nP p).ok ↔ p.may = true ∧ p.kids.cnt + 2 ≤ 64 ∧ p.kids.dpt + 2 ≤ 16 := by
  unfold Po.ok
  rw [n_may]
  show _ ∧ (p.fo .nil).cnt + 1 ≤ 64 ∧ (p.fo .nil).dpt + 1 ≤ 16 ↔ _
  rw [fo_cnt, fo_dpt]
  simp only [Fo.cnt, Fo.dpt]
  constructor <;> rintro ⟨h1, h2, h3⟩ <;> exact ⟨h1, by omega, by omega⟩
theorem b_ok (k : Int) (hk : k = 2 ∨ k = 3) (p q : Po) : (bP k p q).ok ↔ (p.may = true ∧ q.may = true) ∧ p.kids.cnt + q.kids.cnt + 3 ≤ 64 ∧ p.kids.dpt + 2 ≤ 16 ∧ q.kids.dpt + 2 ≤ 16 := by
  unfold Po.ok
  rw [b_may k hk, Bool.and_eq_true]
  show _ ∧ (p.fo (q.fo .nil)).cnt + 1 ≤ 64 ∧ (p.fo (q.fo .nil)).dpt + 1 ≤ 16 ↔ _
  rw [fo_cnt, fo_dpt, fo_cnt, fo_dpt]
  simp only [Fo.cnt, Fo.dpt]
  constructor
  · rintro ⟨h1, h2, h3⟩; exact ⟨h1, by omega, by omega, by omega⟩
  · rintro ⟨h1, h2, h3, h4⟩; exact ⟨h1, by omega, by omega⟩
abbrev Po.hold (x : Fx) (p : Po) : Bool := holdP x p.k p.o p.n p.t p.kids
abbrev Po.holds (x : Fx) (p : Po) : Bool := holdsP x p.k p.o p.n p.t p.kids
theorem n_hold (x : Fx) (p : Po) : (nP p).hold x = !p.hold x := by
  show holdN x 1 0 e0 e0 ((p.fo .nil).hold x) = _
  simp [holdN, Po.fo, Fo.hold, Po.hold, holdP]
theorem a_hold (x : Fx) (p q : Po) : (bP 2 p q).hold x = (p.hold x && q.hold x) := by
  show holdN x 2 0 e0 e0 ((p.fo (q.fo .nil)).hold x) = _
  simp [holdN, Po.fo, Fo.hold, Po.hold, holdP]
theorem o_hold (x : Fx) (p q : Po) : (bP 3 p q).hold x = (p.hold x || q.hold x) := by
  show holdN x 3 0 e0 e0 ((p.fo (q.fo .nil)).hold x) = _
  simp [holdN, Po.fo, Fo.hold, Po.hold, holdP]
theorem holds_ok (x : Fx) (p : Po) (h : p.kids.cnt ≤ 1000000) (ho : p.ok) : p.holds x = p.hold x := by
  unfold Po.holds holdsP
  rw [show chkP p.k p.o p.n p.t p.kids = 0 from (chk_ok p h).2 ho]
  simp [Po.hold]
theorem n_kc (p : Po) : (nP p).kids.cnt = p.kids.cnt + 1 := by show (p.fo .nil).cnt = _; rw [fo_cnt]; simp [Fo.cnt]
theorem b_kc (k : Int) (p q : Po) : (bP k p q).kids.cnt = p.kids.cnt + q.kids.cnt + 2 := by show (p.fo (q.fo .nil)).cnt = _; rw [fo_cnt, fo_cnt]; simp [Fo.cnt]; omega
/-- What the law asks, where the great one may be. -/
theorem logic_all (x : Fx) (p q : Po) (hp : p.kids.cnt ≤ 200000) (hq : q.kids.cnt ≤ 200000) (h : (bP 3 (nP (nP p)) (nP (nP q))).chk = 0) :
    p.chk = 0 ∧ p.holds x = p.hold x ∧ q.holds x = q.hold x ∧ (nP p).holds x = (!p.hold x) ∧ (nP (nP p)).holds x = p.hold x ∧ (bP 2 p q).holds x = (p.hold x && q.hold x) ∧ (bP 3 p q).holds x = (p.hold x || q.hold x)
    ∧ (bP 2 q p).holds x = (q.hold x && p.hold x) ∧ (bP 3 q p).holds x = (q.hold x || p.hold x) ∧ (nP (bP 2 p q)).holds x = (!(p.hold x && q.hold x)) ∧ (bP 3 (nP p) (nP q)).holds x = (!p.hold x || !q.hold x) := by
  have l0 : p.kids.cnt ≤ 1000000 := by omega
  have l1 : q.kids.cnt ≤ 1000000 := by omega
  have l2 : (nP p).kids.cnt ≤ 1000000 := by rw [n_kc]; omega
  have l3 : (nP (nP p)).kids.cnt ≤ 1000000 := by rw [n_kc, n_kc]; omega
  have l4 : (bP 2 p q).kids.cnt ≤ 1000000 := by rw [b_kc]; omega
  have l5 : (bP 3 p q).kids.cnt ≤ 1000000 := by rw [b_kc]; omega
  have l6 : (bP 2 q p).kids.cnt ≤ 1000000 := by rw [b_kc]; omega
  have l7 : (bP 3 q p).kids.cnt ≤ 1000000 := by rw [b_kc]; omega
  have l8 : (nP (bP 2 p q)).kids.cnt ≤ 1000000 := by rw [n_kc, b_kc]; omega
  have l9 : (bP 3 (nP p) (nP q)).kids.cnt ≤ 1000000 := by rw [b_kc, n_kc, n_kc]; omega
  have l10 : (bP 3 (nP (nP p)) (nP (nP q))).kids.cnt ≤ 1000000 := by rw [b_kc, n_kc, n_kc, n_kc, n_kc]; omega
  have d1 : (nP p).kids.dpt = p.kids.dpt + 1 := by show (p.fo .nil).dpt = _; rw [fo_dpt]; simp [Fo.dpt]
  have d2 : (nP q).kids.dpt = q.kids.dpt + 1 := by show (q.fo .nil).dpt = _; rw [fo_dpt]; simp [Fo.dpt]
  have d3 : (nP (nP p)).kids.dpt = p.kids.dpt + 2 := by show ((nP p).fo .nil).dpt = _; rw [fo_dpt, d1]; simp [Fo.dpt]
  have d4 : (nP (nP q)).kids.dpt = q.kids.dpt + 2 := by show ((nP q).fo .nil).dpt = _; rw [fo_dpt, d2]; simp [Fo.dpt]
  have d5 : (bP 2 p q).kids.dpt = max (p.kids.dpt + 1) (q.kids.dpt + 1) := by show (p.fo (q.fo .nil)).dpt = _; rw [fo_dpt, fo_dpt]; simp [Fo.dpt]
  have hg := (b_ok 3 (Or.inr rfl) (nP (nP p)) (nP (nP q))).1 ((chk_ok _ l10).1 h)
  rw [n_may, n_may, n_may, n_may, d3, d4, n_kc, n_kc, n_kc, n_kc] at hg
  obtain ⟨⟨mp, mq⟩, hc, hd1, hd2⟩ := hg
  clear h hp hq
  have op : p.ok := ⟨mp, by omega, by omega⟩
  have oq : q.ok := ⟨mq, by omega, by omega⟩
  have onp : (nP p).ok := (n_ok p).2 ⟨mp, by omega, by omega⟩
  have onnp : (nP (nP p)).ok := (n_ok (nP p)).2 ⟨by rw [n_may]; exact mp, by rw [n_kc]; omega, by rw [d1]; omega⟩
  have oa : (bP 2 p q).ok := (b_ok 2 (Or.inl rfl) p q).2 ⟨⟨mp, mq⟩, by omega, by omega, by omega⟩
  have oo : (bP 3 p q).ok := (b_ok 3 (Or.inr rfl) p q).2 ⟨⟨mp, mq⟩, by omega, by omega, by omega⟩
  have oa2 : (bP 2 q p).ok := (b_ok 2 (Or.inl rfl) q p).2 ⟨⟨mq, mp⟩, by omega, by omega, by omega⟩
  have oo2 : (bP 3 q p).ok := (b_ok 3 (Or.inr rfl) q p).2 ⟨⟨mq, mp⟩, by omega, by omega, by omega⟩
  have ona : (nP (bP 2 p q)).ok := (n_ok (bP 2 p q)).2 ⟨oa.1, by rw [b_kc]; omega, by rw [d5]; omega⟩
  have oon : (bP 3 (nP p) (nP q)).ok := (b_ok 3 (Or.inr rfl) (nP p) (nP q)).2 ⟨⟨by rw [n_may]; exact mp, by rw [n_may]; exact mq⟩, by rw [n_kc, n_kc]; omega, by rw [d1]; omega, by rw [d2]; omega⟩
  exact ⟨(chk_ok p l0).2 op, holds_ok x p l0 op, holds_ok x q l1 oq, (holds_ok x (nP p) l2 onp).trans (n_hold x p),
    (holds_ok x (nP (nP p)) l3 onnp).trans ((n_hold x (nP p)).trans (by rw [show (nP p).hold x = !p.hold x from n_hold x p, Bool.not_not])),
    (holds_ok x (bP 2 p q) l4 oa).trans (a_hold x p q), (holds_ok x (bP 3 p q) l5 oo).trans (o_hold x p q), (holds_ok x (bP 2 q p) l6 oa2).trans (a_hold x q p), (holds_ok x (bP 3 q p) l7 oo2).trans (o_hold x q p),
    (holds_ok x (nP (bP 2 p q)) l8 ona).trans ((n_hold x (bP 2 p q)).trans (congrArg (fun b => !b) (a_hold x p q))),
    (holds_ok x (bP 3 (nP p) (nP q)) l9 oon).trans ((o_hold x (nP p) (nP q)).trans (by rw [show (nP p).hold x = !p.hold x from n_hold x p, show (nP q).hold x = !q.hold x from n_hold x q]))⟩
/-- What may not be does not hold. -/
theorem holds_bad (x : Fx) (p : Po) (h : p.chk ≠ 0) : p.holds x = false := by
  unfold Po.holds holdsP
  simp [show chkP p.k p.o p.n p.t p.kids ≠ 0 from h]
end Go.Proofs.YthpagppipifgeaaGreatDoor
