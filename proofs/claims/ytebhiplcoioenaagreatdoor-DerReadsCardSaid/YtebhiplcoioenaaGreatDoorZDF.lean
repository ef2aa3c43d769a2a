/- YCalm YSoft YSoftG YGSteps, in one text. -/
import Derived.Test.YtebhiplcoioenaaGreatDoorZYRws
import Derived.StillTail
/- A region that draws its order, in which calls lay new blocks only and variables of the call's own are made: one walk in the order of the text serves every order. -/
namespace Go.Proofs.YtebhiplcoioenaaGreatDoor
open Go.RowKit
section
variable {P : Program} {B : Nat} {w0 : World} {L : List (Nat × Array Value × TypeId)} {l : List Oper} {n : Nat}

def isAl : Op → Bool
  | .alloc _ => true
  | _ => false

def isSt : Op → Bool
  | .store .. => true
  | _ => false

/-- The one variable that may be written in the midst of the region, what it held and what it will hold. -/
structure StRow where
  g : Nat
  old : Array Value
  new : Array Value
  t : TypeId

variable {S : StRow}

/-- The operation that writes it. -/
def StOk (P : Program) (S : StRow) (o : Oper) (a : Act) : Prop :=
  ∃ x y, o.op = .store S.t x y ∧ a.eval x = .pointer (some ⟨S.g, 0, none⟩) ∧ a.eval y = .agg S.new ∧ (P.info? S.t).map (·.size) = some S.new.size ∧ S.old.size = S.new.size ∧ S.new.all (·.oneCell') = true

/-- It yields v, in the world that it got; or it is a call that answers v and lays new blocks only. -/
def calmUpon (P : Program) (w : World) (v : Value) : Result Next → Prop
  | .ok (.value u) w' => w' = w ∧ u = v
  | .ok (.enter f args) w' => w' = w ∧ Calls P f args w fun e w'' => e = .returned v ∧ Below w.heap.size w w''
  | _ => False

def Calm (P : Program) (B : Nat) (w0 : World) (L : List (Nat × Array Value × TypeId)) (o : Oper) (a : Act) (v : Value) : Prop :=
  ∀ w, Rws B w0 w L → calmUpon P w v ((execOp a.eval o).run P w)

/-- The walk in the order of the text, of the first n operations. -/
def lexC (P : Program) (B : Nat) (w0 : World) (L : List (Nat × Array Value × TypeId)) (S : StRow) (ops : Array Oper) (Q : Act → Prop) : Nat → List Oper → Act → Prop
  | 0, _, a => Q a
  | _ + 1, [], a => Q a
  | n + 1, o :: l, a => ∃ v, (Region.wanted o (yielded ops a.tmps) = true → isAl o.op = false → isSt o.op = false → Calm P B w0 L o a v) ∧ (Region.wanted o (yielded ops a.tmps) = false → v = undef) ∧ (isSt o.op = true → StOk P S o a ∧ v = undef) ∧ lexC P B w0 L S ops Q n l (a.put o.dst v)

/-- The variables that were made. -/
def afterAl (P : Program) (B : Nat) (w0 : World) (K : Act → World → Prop) : List Oper → List (Nat × Array Value × TypeId) → Act → Prop
  | [], L, a => ∀ w', Rws B w0 w' L → K a w'
  | o :: os, L, a => match o.op with
    | .alloc t => ∃ z, (∀ w : World, (zeroValue t).run P w = .ok z w) ∧ ∀ g, afterAl P B w0 K os ((g, z.cells, t) :: L) (a.put o.dst (.pointer (some ⟨g, 0, none⟩)))
    | _ => afterAl P B w0 K os L a

def guardB (l : List Oper) (i : Nat) (o : Oper) : Bool :=
  match o.guard with
  | none => true
  | some (g, _) => !isAl o.op && !isSt o.op && decide (g < i) && Region.waitsFor .any l.toArray i g && (match l[g]? with | some p => !isAl p.op | none => false)

def okAt (l : List Oper) (n i : Nat) : Bool :=
  match l[i]? with
  | none => false
  | some o => guardB l i o && o.after.all (fun e => !Region.binds .any e || decide (e.on < i)) &&
    (List.range n).all fun j => match l[j]? with
      | none => false
      | some p => (i == j || o.dst.isNone || o.dst != p.dst) && (i == j || !(isSt o.op && isSt p.op)) &&
        o.op.operands.all fun x => match x with
          | .tmp t => p.dst != some t || (decide (j < i) && Region.waitsFor .any l.toArray i j && !isAl p.op)
          | _ => true

def sideB (n : Nat) (l : List Oper) : Bool :=
  Region.noSelect l.toArray && decide (n < l.length) && Region.sinkB .any l.toArray n && Region.chainB .any l.toArray n && (List.range n).all (okAt l n) &&
    Region.seqB .any l.toArray (l.length - n) n ((List.replicate n true ++ List.replicate (l.length - n) false).toArray)

structure Ok (l : List Oper) (n i : Nat) (o : Oper) : Prop where
  guard : ∀ g b, o.guard = some (g, b) → isAl o.op = false ∧ isSt o.op = false ∧ g < i ∧ Region.waitsFor .any l.toArray i g = true ∧ ∃ p, l[g]? = some p ∧ isAl p.op = false
  back : ∀ e, e ∈ o.after → Region.binds .any e = true → e.on < i
  dst : ∀ j p, j < n → l[j]? = some p → j ≠ i → ∀ d, o.dst = some d → p.dst ≠ some d
  one : ∀ j p, j < n → l[j]? = some p → j ≠ i → isSt o.op = true → isSt p.op = true → False
  use : ∀ j p t, j < n → l[j]? = some p → Operand.tmp t ∈ o.op.operands → p.dst = some t → j < i ∧ Region.waitsFor .any l.toArray i j = true ∧ isAl p.op = false

theorem okAt_spec {i : Nat} {o : Oper} (hi : l[i]? = some o) (h : okAt l n i = true) : Ok l n i o := by
  unfold okAt at h
  rw [hi] at h
  simp only [Bool.and_eq_true] at h
  obtain ⟨⟨hg, ha⟩, hr⟩ := h
  have key : ∀ j p, j < n → l[j]? = some p → ((i == j || o.dst.isNone || o.dst != p.dst) = true ∧ (i == j || !(isSt o.op && isSt p.op)) = true) ∧ (o.op.operands.all fun x => match x with
          | .tmp t => p.dst != some t || (decide (j < i) && Region.waitsFor .any l.toArray i j && !isAl p.op)
          | _ => true) = true := by
    intro j p hj hp
    have h1 := List.all_eq_true.1 hr j (List.mem_range.2 hj)
    rw [hp] at h1
    simpa only [Bool.and_eq_true] using h1
  refine ⟨?_, ?_, ?_, ?_, ?_⟩
  · intro g b hgd
    unfold guardB at hg
    rw [hgd] at hg
    simp only [Bool.and_eq_true, decide_eq_true_eq, Bool.not_eq_true'] at hg
    obtain ⟨⟨⟨⟨h1, h1'⟩, h2⟩, h3⟩, h4⟩ := hg
    cases hp : l[g]? with
    | none => rw [hp] at h4; cases h4
    | some p => rw [hp] at h4; exact ⟨h1, h1', h2, h3, p, rfl, by simpa using h4⟩
  · intro e he hb
    have h1 := Array.all_eq_true_iff_forall_mem.1 ha e he
    rw [hb] at h1
    simpa using h1
  · intro j p hj hp hji d hd hpd
    have h1 := (key j p hj hp).1.1
    rw [hd, hpd] at h1
    simp only [Option.isNone_some, Bool.or_false, beq_iff_eq, bne_self_eq_false] at h1
    exact hji h1.symm
  · intro j p hj hp hji h1 h2
    have h3 := (key j p hj hp).1.2
    rw [h1, h2] at h3
    simp only [Bool.and_self, Bool.not_true, Bool.or_false, beq_iff_eq] at h3
    exact hji h3.symm
  · intro j p t hj hp hx ht
    have h1 := Array.all_eq_true_iff_forall_mem.1 (key j p hj hp).2 _ hx
    simp only [ht, bne_self_eq_false, Bool.false_or, Bool.and_eq_true, decide_eq_true_eq, Bool.not_eq_true'] at h1
    exact ⟨h1.1.1, h1.1.2, h1.2⟩

/-- What the walk in the order of the text tells. -/
theorem lexC_spec {ops : Array Oper} {Q : Act → Prop} : ∀ (n : Nat) (l : List Oper) (a0 : Act), n ≤ l.length → lexC P B w0 L S ops Q n l a0 →
    ∃ (V : Nat → Value) (A : Nat → Act), A 0 = a0 ∧ Q (A n) ∧ ∀ i o, i < n → l[i]? = some o → A (i + 1) = (A i).put o.dst (V i) ∧ (Region.wanted o (yielded ops (A i).tmps) = true → isAl o.op = false → isSt o.op = false → Calm P B w0 L o (A i) (V i)) ∧ (Region.wanted o (yielded ops (A i).tmps) = false → V i = undef) ∧ (isSt o.op = true → StOk P S o (A i) ∧ V i = undef)
  | 0, _, a0, _, h => ⟨fun _ => undef, fun _ => a0, rfl, h, fun i _ hi _ => absurd hi (Nat.not_lt_zero i)⟩
  | _ + 1, [], _, hn, _ => absurd hn (Nat.not_succ_le_zero _)
  | n + 1, o :: l, a0, hn, h => by
    obtain ⟨v, hv, hu, hst, h⟩ := h
    obtain ⟨V, A, h0, hQ, hs⟩ := lexC_spec n l _ (Nat.le_of_succ_le_succ hn) h
    refine ⟨fun | 0 => v | i + 1 => V i, fun | 0 => a0 | i + 1 => A i, rfl, hQ, fun i p hi hp => ?_⟩
    cases i with
    | zero =>
      have e : o = p := Option.some.inj (by simpa using hp)
      subst e
      exact ⟨h0, hv, hu, hst⟩
    | succ i => exact hs i p (by omega) (by simpa using hp)

theorem put_tmps (a : Act) (d : Option Tmp) (v : Value) (t : Nat) : (a.put d v).tmps[t]? = if d = some t then (if t < a.tmps.size then some v else none) else a.tmps[t]? := by
  cases d with
  | none => simp [Act.put]
  | some d =>
    simp only [Act.put, Option.some.injEq]
    rw [Array.getElem?_setIfInBounds]
    by_cases h : d = t
    · subst h; simp
    · simp [h]

theorem put_size (a : Act) (d : Option Tmp) (v : Value) : (a.put d v).tmps.size = a.tmps.size := by
  cases d with
  | none => rfl
  | some d => simp [Act.put]

theorem put_defers (a : Act) (d : Option Tmp) (v : Value) : (a.put d v).defers = a.defers := by cases d <;> rfl

theorem act_ext {a b : Act} (h1 : a.defers = b.defers) (h2 : ∀ t : Nat, a.tmps[t]? = b.tmps[t]?) : a = b := by
  obtain ⟨x, y⟩ := a
  obtain ⟨x', y'⟩ := b
  simp only at h1 h2
  rw [h1, Array.ext_getElem? h2]

/-- The slots along the walk. -/
theorem lexA_tmps {V : Nat → Value} {A : Nat → Act} (hs : ∀ i o, i < n → l[i]? = some o → A (i + 1) = (A i).put o.dst (V i)) (hn : n ≤ l.length) (hok : ∀ i o, i < n → l[i]? = some o → Ok l n i o) :
    ∀ k, k ≤ n → (A k).tmps.size = (A 0).tmps.size ∧ (A k).defers = (A 0).defers ∧
      (∀ t, (∀ i o, i < k → l[i]? = some o → o.dst ≠ some t) → (A k).tmps[t]? = (A 0).tmps[t]?) ∧
      (∀ i o t, i < k → l[i]? = some o → o.dst = some t → t < (A 0).tmps.size → (A k).tmps[t]? = some (V i)) := by
  intro k
  induction k with
  | zero => intro _; exact ⟨rfl, rfl, fun _ _ => rfl, fun i _ _ hi => absurd hi (Nat.not_lt_zero i)⟩
  | succ k ih =>
    intro hk
    obtain ⟨h1, h2, h3, h4⟩ := ih (by omega)
    obtain ⟨o, ho⟩ : ∃ o, l[k]? = some o := ⟨l[k], List.getElem?_eq_getElem (by omega)⟩
    rw [hs k o (by omega) ho]
    refine ⟨by rw [put_size, h1], by rw [put_defers, h2], fun t ht => ?_, fun i p t hi hp hd hl => ?_⟩
    · rw [put_tmps, if_neg (ht k o (by omega) ho)]
      exact h3 t fun i p hi hp => ht i p (by omega) hp
    · rw [put_tmps]
      by_cases hik : i = k
      · subst hik
        have e : o = p := Option.some.inj (ho.symm.trans hp)
        subst e
        rw [if_pos hd, if_pos (by rw [h1]; exact hl)]
      · rw [if_neg (fun hd' => (hok k o (by omega) ho).dst i p (by omega) hp hik t hd' hd)]
        exact h4 i p t (by omega) hp hd hl

/-- How many of the first n hold. -/
def cntB (p : Nat → Bool) : Nat → Nat
  | 0 => 0
  | n + 1 => cntB p n + (bif p n then 1 else 0)

theorem cntB_same {p q : Nat → Bool} : ∀ n, (∀ j, j < n → q j = p j) → cntB q n = cntB p n
  | 0, _ => rfl
  | n + 1, h => by simp only [cntB]; rw [cntB_same n (fun j hj => h j (by omega)), h n (by omega)]

theorem cntB_set {p q : Nat → Bool} {i : Nat} (hp : p i = true) (hq : q i = false) (hs : ∀ j, j ≠ i → q j = p j) : ∀ n, i < n → cntB q n + 1 = cntB p n
  | 0, h => absurd h (Nat.not_lt_zero i)
  | n + 1, h => by
    simp only [cntB]
    by_cases e : i = n
    · subst e
      rw [cntB_same i (fun j hj => hs j (by omega)), hp, hq]
      rfl
    · rw [hs n (fun e' => e e'.symm), ← cntB_set hp hq hs n (by omega)]
      omega

theorem cntB_zero {p : Nat → Bool} : ∀ n, cntB p n = 0 → ∀ i, i < n → p i = false
  | 0, _, i, hi => absurd hi (Nat.not_lt_zero i)
  | n + 1, h, i, hi => by
    simp only [cntB] at h
    have h2 : (bif p n then 1 else 0) = 0 := by omega
    by_cases e : i = n
    · subst e
      cases hp : p i
      · rfl
      · rw [hp] at h2; exact absurd h2 (by decide)
    · exact cntB_zero n (by omega) i (by omega)

def Stored (l : List Oper) (n : Nat) (listed : Array Bool) : Prop := ∃ i o, i < n ∧ l[i]? = some o ∧ isSt o.op = true ∧ listed.getD i false = true

/-- What stands in the midst of the region, whichever order was taken. -/
structure Sim (B : Nat) (w0 : World) (L : List (Nat × Array Value × TypeId)) (S : StRow) (l : List Oper) (n : Nat) (V : Nat → Value) (a0 : Act) (Z : TypeId → Array Value) (γ : Nat → Nat) (listed : Array Bool) (a : Act) (w : World) : Prop where
  size : a.tmps.size = a0.tmps.size
  defers : a.defers = a0.defers
  keep : ∀ t, (∀ i o, i < n → l[i]? = some o → o.dst ≠ some t) → a.tmps[t]? = a0.tmps[t]?
  val : ∀ i o t, i < n → l[i]? = some o → listed.getD i false = true → isAl o.op = false → o.dst = some t → t < a0.tmps.size → a.tmps[t]? = some (V i)
  ptr : ∀ i o t, i < n → l[i]? = some o → listed.getD i false = true → isAl o.op = true → o.dst = some t → t < a0.tmps.size → a.tmps[t]? = some (.pointer (some ⟨γ i, 0, none⟩))
  rws : Rws B w0 w L
  row : ∀ i o t, i < n → l[i]? = some o → listed.getD i false = true → o.op = .alloc t → B ≤ γ i ∧ w.heap[γ i]? = some (.cells (Z t) t (0, 0)) ∧ ∀ x, x ∈ L → x.1 ≠ γ i
  inj : ∀ i j o p, i < n → j < n → l[i]? = some o → l[j]? = some p → isAl o.op = true → isAl p.op = true → listed.getD i false = true → listed.getD j false = true → γ i = γ j → i = j
  srow : (∃ i o, i < n ∧ l[i]? = some o ∧ isSt o.op = true) → B ≤ S.g ∧ S.g < w.heap.size ∧ (Stored l n listed → w.heap[S.g]? = some (.cells S.new S.t (0, 0))) ∧ (¬ Stored l n listed → w.heap[S.g]? = some (.cells S.old S.t (0, 0))) ∧ (∀ x, x ∈ L → x.1 ≠ S.g) ∧ ∀ i o, i < n → l[i]? = some o → listed.getD i false = true → isAl o.op = true → γ i ≠ S.g

theorem isAl_spec {o : Op} (h : isAl o = true) : ∃ t, o = .alloc t := by
  cases o <;> simp [isAl] at h
  exact ⟨_, rfl⟩

theorem stored_set {listed : Array Bool} {i : Nat} {o : Oper} (ho : l[i]? = some o) (h : isSt o.op = false) : Stored l n (listed.setIfInBounds i true) ↔ Stored l n listed := by
  have key : ∀ j p, l[j]? = some p → isSt p.op = true → i ≠ j := fun j p hp hs e => by
    subst e
    have e2 : o = p := Option.some.inj (ho.symm.trans hp)
    subst e2
    rw [h] at hs; cases hs
  constructor
  · rintro ⟨j, p, hj, hp, hs, hl⟩
    exact ⟨j, p, hj, hp, hs, by rwa [getD_set_ne false (key j p hp hs)] at hl⟩
  · rintro ⟨j, p, hj, hp, hs, hl⟩
    exact ⟨j, p, hj, hp, hs, by rwa [getD_set_ne false (key j p hp hs)]⟩

/-- Behind an operation that yields its value and leaves what was there. -/
theorem Sim.next {V : Nat → Value} {a0 : Act} {Z : TypeId → Array Value} {γ : Nat → Nat} {listed : Array Bool} {a : Act} {w w' : World} (h : Sim B w0 L S l n V a0 Z γ listed a w) {i : Nat} {o : Oper} (hi : i < n) (ho : l[i]? = some o)
    (hok : Ok l n i o) (hal : isAl o.op = false) (hst : isSt o.op = false) (hb : Below w.heap.size w w') : Sim B w0 L S l n V a0 Z γ (listed.setIfInBounds i true) (a.put o.dst (V i)) w' := by
  have hother : ∀ j p t, j < n → l[j]? = some p → j ≠ i → p.dst = some t → (a.put o.dst (V i)).tmps[t]? = a.tmps[t]? := fun j p t hj hp hji hd => by
    rw [put_tmps, if_neg (fun hd' => hok.dst j p hj hp hji t hd' hd)]
  refine ⟨by rw [put_size, h.size], by rw [put_defers, h.defers], fun t ht => ?_, fun j p t hj hp hl hpa hd ht => ?_, fun j p t hj hp hl hpa hd ht => ?_, h.rws.call hb, fun j p t hj hp hl hpa => ?_, fun j k p q hj hk hp hq hpa hqa hl hl' => ?_, fun hex => ?_⟩
  · rw [put_tmps, if_neg (ht i o hi ho)]
    exact h.keep t ht
  · by_cases e : j = i
    · subst e
      have e2 : o = p := Option.some.inj (ho.symm.trans hp)
      subst e2
      rw [put_tmps, if_pos hd, if_pos (by rw [h.size]; exact ht)]
    · rw [hother j p t hj hp e hd]
      exact h.val j p t hj hp (by rwa [getD_set_ne false (fun e' => e e'.symm)] at hl) hpa hd ht
  · have e : j ≠ i := fun e => by
      subst e
      have e2 : o = p := Option.some.inj (ho.symm.trans hp)
      subst e2
      rw [hal] at hpa; cases hpa
    rw [hother j p t hj hp e hd]
    exact h.ptr j p t hj hp (by rwa [getD_set_ne false (fun e' => e e'.symm)] at hl) hpa hd ht
  · have e : j ≠ i := fun e => by
      subst e
      have e2 : o = p := Option.some.inj (ho.symm.trans hp)
      subst e2
      rw [hpa] at hal; cases hal
    have h1 := h.row j p t hj hp (by rwa [getD_set_ne false (fun e' => e e'.symm)] at hl) hpa
    exact ⟨h1.1, (hb.block _ (Array.getElem?_eq_some_iff.1 h1.2.1).1).trans h1.2.1, h1.2.2⟩
  · have e : ∀ m r, l[m]? = some r → isAl r.op = true → m ≠ i := fun m r hm hr e => by
      subst e
      have e2 : o = r := Option.some.inj (ho.symm.trans hm)
      subst e2
      rw [hal] at hr; cases hr
    exact h.inj j k p q hj hk hp hq hpa hqa (by rwa [getD_set_ne false (fun e' => e j p hp hpa e'.symm)] at hl) (by rwa [getD_set_ne false (fun e' => e k q hq hqa e'.symm)] at hl')
  · obtain ⟨s1, s2, s3, s4, s5, s6⟩ := h.srow hex
    rw [stored_set ho hst]
    refine ⟨s1, Nat.lt_of_lt_of_le s2 hb.size, fun hs => (hb.block _ s2).trans (s3 hs), fun hs => (hb.block _ s2).trans (s4 hs), s5, fun j p hj hp hl hpa => ?_⟩
    have e : j ≠ i := fun e => by
      subst e
      have e2 : o = p := Option.some.inj (ho.symm.trans hp)
      subst e2
      rw [hal] at hpa; cases hpa
    exact s6 j p hj hp (by rwa [getD_set_ne false (fun e' => e e'.symm)] at hl) hpa

/-- Behind a new variable. -/
theorem Sim.nextAl {V : Nat → Value} {a0 : Act} {Z : TypeId → Array Value} {γ : Nat → Nat} {listed : Array Bool} {a : Act} {w : World} (h : Sim B w0 L S l n V a0 Z γ listed a w) {i : Nat} {o : Oper} {t : TypeId} (hi : i < n) (ho : l[i]? = some o)
    (hun : listed.getD i false = false) (hok : Ok l n i o) (hal : o.op = .alloc t) :
    Sim B w0 L S l n V a0 Z (fun j => if j = i then w.heap.size else γ j) (listed.setIfInBounds i true) (a.put o.dst (.pointer (some ⟨w.heap.size, 0, none⟩))) (w.alloc (.cells (Z t) t)) := by
  have hisal : isAl o.op = true := by rw [hal]; rfl
  have hother : ∀ j p t, j < n → l[j]? = some p → j ≠ i → p.dst = some t → (a.put o.dst (.pointer (some ⟨w.heap.size, 0, none⟩))).tmps[t]? = a.tmps[t]? := fun j p t hj hp hji hd => by
    rw [put_tmps, if_neg (fun hd' => hok.dst j p hj hp hji t hd' hd)]
  have hlt : ∀ j p s, j < n → l[j]? = some p → listed.getD j false = true → p.op = .alloc s → γ j < w.heap.size := fun j p s hj hp hl hs => (Array.getElem?_eq_some_iff.1 (h.row j p s hj hp hl hs).2.1).1
  refine ⟨by rw [put_size, h.size], by rw [put_defers, h.defers], fun t ht => ?_, fun j p t hj hp hl hpa hd ht => ?_, fun j p t hj hp hl hpa hd ht => ?_, h.rws.alloc0 _, fun j p s hj hp hl hpa => ?_, fun j k p q hj hk hp hq hpa hqa hl hl' hg => ?_, fun hex => ?_⟩
  · rw [put_tmps, if_neg (ht i o hi ho)]
    exact h.keep t ht
  · have e : j ≠ i := fun e => by
      subst e
      have e2 : o = p := Option.some.inj (ho.symm.trans hp)
      subst e2
      rw [hisal] at hpa; cases hpa
    rw [hother j p t hj hp e hd]
    exact h.val j p t hj hp (by rwa [getD_set_ne false (fun e' => e e'.symm)] at hl) hpa hd ht
  · by_cases e : j = i
    · subst e
      have e2 : o = p := Option.some.inj (ho.symm.trans hp)
      subst e2
      rw [put_tmps, if_pos hd, if_pos (by rw [h.size]; exact ht), if_pos rfl]
    · rw [hother j p t hj hp e hd, if_neg e]
      exact h.ptr j p t hj hp (by rwa [getD_set_ne false (fun e' => e e'.symm)] at hl) hpa hd ht
  · by_cases e : j = i
    · subst e
      have e2 : o = p := Option.some.inj (ho.symm.trans hp)
      subst e2
      have e3 : t = s := by rw [hal] at hpa; exact Op.alloc.inj hpa
      subst e3
      rw [if_pos rfl]
      exact ⟨h.rws.len, heap_alloc_new _ _, fun x hx => Nat.ne_of_lt (h.rws.lt hx)⟩
    · have hl' : listed.getD j false = true := by rwa [getD_set_ne false (fun e' => e e'.symm)] at hl
      have h1 := h.row j p s hj hp hl' hpa
      rw [if_neg e]
      exact ⟨h1.1, (Below.heap_alloc w _ _ (hlt j p s hj hp hl' hpa)).trans h1.2.1, h1.2.2⟩
  · obtain ⟨s, hs⟩ := isAl_spec hpa
    obtain ⟨s', hs'⟩ := isAl_spec hqa
    by_cases e : j = i
    · by_cases e' : k = i
      · rw [e, e']
      · rw [if_pos e, if_neg e'] at hg
        have := hlt k q s' hk hq (by rwa [getD_set_ne false (fun e2 => e' e2.symm)] at hl') hs'
        omega
    · by_cases e' : k = i
      · rw [if_neg e, if_pos e'] at hg
        have := hlt j p s hj hp (by rwa [getD_set_ne false (fun e2 => e e2.symm)] at hl) hs
        omega
      · rw [if_neg e, if_neg e'] at hg
        exact h.inj j k p q hj hk hp hq hpa hqa (by rwa [getD_set_ne false (fun e2 => e e2.symm)] at hl) (by rwa [getD_set_ne false (fun e2 => e' e2.symm)] at hl') hg
  · obtain ⟨s1, s2, s3, s4, s5, s6⟩ := h.srow hex
    rw [stored_set ho (by rw [hal]; rfl)]
    refine ⟨s1, by rw [World.size_alloc]; omega, fun hs => (Below.heap_alloc w _ _ s2).trans (s3 hs), fun hs => (Below.heap_alloc w _ _ s2).trans (s4 hs), s5, fun j p hj hp hl hpa => ?_⟩
    by_cases e : j = i
    · simp only [if_pos e]; omega
    · simp only [if_neg e]
      exact s6 j p hj hp (by rwa [getD_set_ne false (fun e' => e e'.symm)] at hl) hpa

/-- Behind the one store. -/
theorem Sim.nextSt {V : Nat → Value} {a0 : Act} {Z : TypeId → Array Value} {γ : Nat → Nat} {listed : Array Bool} {a : Act} {w : World} (h : Sim B w0 L S l n V a0 Z γ listed a w) {i : Nat} {o : Oper} (hi : i < n) (ho : l[i]? = some o)
    (hsz : i < listed.size) (hok : Ok l n i o) (hst : isSt o.op = true) (hv : V i = undef) : Sim B w0 L S l n V a0 Z γ (listed.setIfInBounds i true) (a.put o.dst undef) (w.setRow S.g S.new) := by
  obtain ⟨s1, s2, s3, s4, s5, s6⟩ := h.srow ⟨i, o, hi, ho, hst⟩
  have hal : isAl o.op = false := by
    cases hop : o.op <;> rw [hop] at hst <;> first | rfl | cases hst
  have hother : ∀ j p t, j < n → l[j]? = some p → j ≠ i → p.dst = some t → (a.put o.dst undef).tmps[t]? = a.tmps[t]? := fun j p t hj hp hji hd => by
    rw [put_tmps, if_neg (fun hd' => hok.dst j p hj hp hji t hd' hd)]
  have hrow : ∀ k, k ≠ S.g → (w.setRow S.g S.new).heap[k]? = w.heap[k]? := fun k hk => by
    simp only [World.setRow, Array.getElem?_modify]
    rw [if_neg (fun e => hk e.symm)]
  have hg : ∃ cs, w.heap[S.g]? = some (.cells cs S.t (0, 0)) := by
    by_cases hs : Stored l n listed
    · exact ⟨_, s3 hs⟩
    · exact ⟨_, s4 hs⟩
  obtain ⟨cs0, hg⟩ := hg
  have hnew : (w.setRow S.g S.new).heap[S.g]? = some (.cells S.new S.t (0, 0)) := by
    simp only [World.setRow, Array.getElem?_modify]
    rw [hg]; rfl
  refine ⟨by rw [put_size, h.size], by rw [put_defers, h.defers], fun t ht => ?_, fun j p t hj hp hl hpa hd ht => ?_, fun j p t hj hp hl hpa hd ht => ?_, ?_, fun j p t hj hp hl hpa => ?_, fun j k p q hj hk hp hq hpa hqa hl hl' => ?_, fun _ => ?_⟩
  · rw [put_tmps, if_neg (ht i o hi ho)]
    exact h.keep t ht
  · by_cases e : j = i
    · subst e
      have e2 : o = p := Option.some.inj (ho.symm.trans hp)
      subst e2
      rw [put_tmps, if_pos hd, if_pos (by rw [h.size]; exact ht), hv]
    · rw [hother j p t hj hp e hd]
      exact h.val j p t hj hp (by rwa [getD_set_ne false (fun e' => e e'.symm)] at hl) hpa hd ht
  · have e : j ≠ i := fun e => by
      subst e
      have e2 : o = p := Option.some.inj (ho.symm.trans hp)
      subst e2
      rw [hal] at hpa; cases hpa
    rw [hother j p t hj hp e hd]
    exact h.ptr j p t hj hp (by rwa [getD_set_ne false (fun e' => e e'.symm)] at hl) hpa hd ht
  · refine ⟨h.rws.below.trans ⟨rfl, rfl, rfl, by rw [size_setRow]; exact Nat.le_refl _, fun k hk => hrow k (by omega)⟩, by rw [size_setRow]; exact h.rws.len, fun x hx => ⟨(h.rws.row x hx).1, (hrow _ (s5 x hx)).trans (h.rws.row x hx).2⟩, h.rws.nd⟩
  · have e : j ≠ i := fun e => by
      subst e
      have e2 : o = p := Option.some.inj (ho.symm.trans hp)
      subst e2
      rw [hpa] at hal; cases hal
    have hl' : listed.getD j false = true := by rwa [getD_set_ne false (fun e' => e e'.symm)] at hl
    have h1 := h.row j p t hj hp hl' hpa
    exact ⟨h1.1, (hrow _ (s6 j p hj hp hl' (by rw [hpa]; rfl))).trans h1.2.1, h1.2.2⟩
  · have e : ∀ m r, l[m]? = some r → isAl r.op = true → m ≠ i := fun m r hm hr e => by
      subst e
      have e2 : o = r := Option.some.inj (ho.symm.trans hm)
      subst e2
      rw [hal] at hr; cases hr
    exact h.inj j k p q hj hk hp hq hpa hqa (by rwa [getD_set_ne false (fun e' => e j p hp hpa e'.symm)] at hl) (by rwa [getD_set_ne false (fun e' => e k q hq hqa e'.symm)] at hl')
  · refine ⟨s1, by rw [size_setRow]; exact s2, fun _ => hnew, fun hs => absurd ⟨i, o, hi, ho, hst, by simp [hsz]⟩ hs, s5, fun j p hj hp hl hpa => ?_⟩
    have e : j ≠ i := fun e => by
      subst e
      have e2 : o = p := Option.some.inj (ho.symm.trans hp)
      subst e2
      rw [hal] at hpa; cases hpa
    exact s6 j p hj hp (by rwa [getD_set_ne false (fun e' => e e'.symm)] at hl) hpa

/-- A type's zero, in cells. -/
noncomputable def zeroOf (P : Program) (t : TypeId) : Array Value := open Classical in if h : ∃ z, ∀ w : World, (zeroValue t).run P w = .ok z w then (Classical.choose h).cells else #[]

theorem zeroOf_eq {t : TypeId} {z : Value} (h : ∀ w : World, (zeroValue t).run P w = .ok z w) (w : World) : zeroOf P t = z.cells := by
  have hx : ∃ z, ∀ w : World, (zeroValue t).run P w = .ok z w := ⟨z, h⟩
  unfold zeroOf
  rw [dif_pos hx]
  have h2 := Classical.choose_spec hx w
  rw [h w] at h2
  injection h2 with h3
  rw [← h3]

theorem afterAl_zero {K : Act → World → Prop} : ∀ (os : List Oper) (L : List (Nat × Array Value × TypeId)) (a : Act), afterAl P B w0 K os L a → ∀ (o : Oper) (t : TypeId), o ∈ os → o.op = .alloc t → ∃ z, ∀ w : World, (zeroValue t).run P w = .ok z w
  | [], _, _, _, _, _, ho, _ => absurd ho List.not_mem_nil
  | p :: os, L, a, h, o, t, ho, ht => by
    unfold afterAl at h
    rcases List.mem_cons.1 ho with e | ho
    · subst e
      rw [ht] at h
      obtain ⟨z, hz, _⟩ := h
      exact ⟨z, hz⟩
    · split at h
      · obtain ⟨z, _, h⟩ := h
        exact afterAl_zero os _ _ (h 0) o t ho ht
      · exact afterAl_zero os _ _ h o t ho ht

/-- The end of the region's first n operations. -/
theorem afterAl_end {K : Act → World → Prop} {V : Nat → Value} {A : Nat → Act} {γ : Nat → Nat} {listed : Array Bool} {a : Act} {w : World} (hs : ∀ i o, i < n → l[i]? = some o → A (i + 1) = (A i).put o.dst (V i)) (hn : n ≤ l.length)
    (hok : ∀ i o, i < n → l[i]? = some o → Ok l n i o) (h : Sim B w0 L S l n V (A 0) (zeroOf P) γ listed a w) (hall : ∀ i, i < n → listed.getD i false = true) :
    ∀ (d k : Nat) (Lk : List (Nat × Array Value × TypeId)) (ak : Act), k + d = n → Rws B w0 w Lk → (∀ x, x ∈ Lk → (∀ i o, i < n → l[i]? = some o → isAl o.op = true → γ i ≠ x.1) ∨ ∃ j p, j < k ∧ l[j]? = some p ∧ isAl p.op = true ∧ x.1 = γ j) →
      ak.tmps.size = (A 0).tmps.size → ak.defers = (A 0).defers →
      (∀ t, (∀ j p, j < k → l[j]? = some p → isAl p.op = true → p.dst ≠ some t) → ak.tmps[t]? = (A n).tmps[t]?) →
      (∀ j p t, j < k → l[j]? = some p → isAl p.op = true → p.dst = some t → t < (A 0).tmps.size → ak.tmps[t]? = some (.pointer (some ⟨γ j, 0, none⟩))) →
      afterAl P B w0 K ((l.take n).drop k) Lk ak → K a w := by
  obtain ⟨h1, h2, h3, h4⟩ := lexA_tmps hs hn hok n (Nat.le_refl n)
  intro d
  induction d with
  | zero =>
    intro k Lk ak hk hR _ hsz hdf hkeep hptr hA
    have hkn : k = n := by omega
    subst hkn
    rw [List.drop_eq_nil_of_le (by simp; omega)] at hA
    have e : a = ak := by
      refine act_ext (h.defers.trans hdf.symm) fun t => ?_
      by_cases ht : t < (A 0).tmps.size
      · by_cases hd : ∃ i o, i < k ∧ l[i]? = some o ∧ o.dst = some t
        · obtain ⟨i, o, hi, ho, hd⟩ := hd
          cases hal : isAl o.op with
          | true => rw [h.ptr i o t hi ho (hall i hi) hal hd ht, hptr i o t hi ho hal hd ht]
          | false =>
            rw [h.val i o t hi ho (hall i hi) hal hd ht, hkeep t (fun j p hj hp hpa hpd => ?_), h4 i o t hi ho hd ht]
            by_cases e : j = i
            · subst e
              have e2 : o = p := Option.some.inj (ho.symm.trans hp)
              subst e2
              rw [hal] at hpa; cases hpa
            · exact (hok i o hi ho).dst j p hj hp e t hd hpd
        · have hno : ∀ i o, i < k → l[i]? = some o → o.dst ≠ some t := fun i o hi ho hd' => hd ⟨i, o, hi, ho, hd'⟩
          rw [h.keep t hno, hkeep t (fun j p hj hp _ => hno j p hj hp), h3 t hno]
      · rw [Array.getElem?_eq_none (by rw [h.size]; omega), Array.getElem?_eq_none (by rw [hsz]; omega)]
    rw [e]
    exact hA w hR
  | succ d ih =>
    intro k Lk ak hk hR hL hsz hdf hkeep hptr hA
    obtain ⟨o, ho⟩ : ∃ o, l[k]? = some o := ⟨l[k], List.getElem?_eq_getElem (by omega)⟩
    have hdrop : (l.take n).drop k = o :: (l.take n).drop (k + 1) := by
      have hlt : k < (l.take n).length := by simp; omega
      rw [List.drop_eq_getElem_cons hlt]
      congr 1
      have : (l.take n)[k]? = some o := by rw [List.getElem?_take, if_pos (by omega)]; exact ho
      rw [List.getElem?_eq_getElem hlt] at this
      exact Option.some.inj this
    rw [hdrop] at hA
    unfold afterAl at hA
    split at hA
    · rename_i t hal
      obtain ⟨z, hz, hA⟩ := hA
      have hisal : isAl o.op = true := by rw [hal]; rfl
      have hrow := h.row k o t (by omega) ho (hall k (by omega)) hal
      rw [zeroOf_eq hz w] at hrow
      refine ih (k + 1) _ _ (by omega) (hR.add hrow.1 hrow.2.1 fun x hx e => ?_) (fun x hx => ?_) (by rw [put_size, hsz]) (by rw [put_defers, hdf]) (fun s hns => ?_) (fun j p s hj hp hpa hd hs' => ?_) (hA (γ k))
      · rcases hL x hx with hx | ⟨j, p, hj, hp, hpa, hxj⟩
        · exact hx k o (by omega) ho hisal e.symm
        · have := h.inj j k p o (by omega) (by omega) hp ho hpa hisal (hall j (by omega)) (hall k (by omega)) (hxj.symm.trans e)
          omega
      · rcases List.mem_cons.1 hx with rfl | hx
        · exact Or.inr ⟨k, o, by omega, ho, hisal, rfl⟩
        · rcases hL x hx with hx | ⟨j, p, hj, r⟩
          · exact Or.inl hx
          · exact Or.inr ⟨j, p, by omega, r⟩
      · rw [put_tmps, if_neg (hns k o (by omega) ho hisal)]
        exact hkeep s fun j p hj hp hpa => hns j p (by omega) hp hpa
      · rw [put_tmps]
        by_cases e : j = k
        · subst e
          have e2 : o = p := Option.some.inj (ho.symm.trans hp)
          subst e2
          rw [if_pos hd, if_pos (by rw [hsz]; exact hs')]
        · rw [if_neg (fun hd' => (hok k o (by omega) ho).dst j p (by omega) hp e s hd' hd)]
          exact hptr j p s (by omega) hp hpa hd hs'
    · rename_i hna
      have hisal : isAl o.op = false := by
        cases hq : isAl o.op with
        | false => rfl
        | true => obtain ⟨t, ht⟩ := isAl_spec hq; exact absurd ht (hna t)
      refine ih (k + 1) _ _ (by omega) hR (fun x hx => ?_) hsz hdf (fun s hns => hkeep s fun j p hj hp hpa => hns j p (by omega) hp hpa) (fun j p s hj hp hpa hd hs' => ?_) hA
      · rcases hL x hx with hx | ⟨j, p, hj, r⟩
        · exact Or.inl hx
        · exact Or.inr ⟨j, p, by omega, r⟩
      · have e : j ≠ k := fun e => by
          subst e
          have e2 : o = p := Option.some.inj (ho.symm.trans hp)
          subst e2
          rw [hisal] at hpa; cases hpa
        exact hptr j p s (by omega) hp hpa hd hs'

theorem cntB_all {p : Nat → Bool} : ∀ n, cntB p n ≠ 0 → ∃ i, i < n ∧ p i = true
  | 0, h => absurd rfl h
  | n + 1, h => by
    cases hp : p n with
    | true => exact ⟨n, by omega, hp⟩
    | false =>
      obtain ⟨i, hi, hpi⟩ := cntB_all n (fun e => h (by simp only [cntB]; rw [e, hp]; rfl))
      exact ⟨i, by omega, hpi⟩

theorem ready_some {listed : Array Bool} (hn : n ≤ l.length) (hsz : listed.size = l.length) (hok : ∀ i o, i < n → l[i]? = some o → Ok l n i o) (i : Nat) : i < n → listed.getD i true = false → Region.ready .any l.toArray listed ≠ [] := by
  induction i using Nat.strongRecOn with
  | ind i ih =>
    intro hi hun
    obtain ⟨o, ho⟩ : ∃ o, l[i]? = some o := ⟨l[i], List.getElem?_eq_getElem (by omega)⟩
    by_cases hall : ∀ e, e ∈ o.after → Region.binds .any e = true → listed.getD e.on false = true
    · intro h0
      have : i ∈ Region.ready .any l.toArray listed := mem_ready.2 ⟨hun, o, by simpa using ho, hall⟩
      rw [h0] at this
      cases this
    · have hex : ∃ e, e ∈ o.after ∧ Region.binds .any e = true ∧ listed.getD e.on false = false := by
        refine Classical.byContradiction fun hno => hall fun e he hb => ?_
        cases hl : listed.getD e.on false with
        | true => rfl
        | false => exact absurd ⟨e, he, hb, hl⟩ hno
      obtain ⟨e, he, hb, hl⟩ := hex
      have hlt := (hok i o hi ho).back e he hb
      exact ih e.on hlt (by omega) (getD_in (by omega) hl)

theorem calm_any {Q : Exit → Act → World → Prop} {V : Nat → Value} {A : Nat → Act} (hsel : Region.noSelect l.toArray = true) (hn : n < l.length) (hsink : Region.sinkB .any l.toArray n = true) (hchain : Region.chainB .any l.toArray n = true)
    (hseq : Region.seqB .any l.toArray (l.length - n) n ((List.replicate n true ++ List.replicate (l.length - n) false).toArray) = true)
    (hok : ∀ i o, i < n → l[i]? = some o → Ok l n i o) (hs : ∀ i o, i < n → l[i]? = some o → A (i + 1) = (A i).put o.dst (V i) ∧ (Region.wanted o (yielded l.toArray (A i).tmps) = true → isAl o.op = false → isSt o.op = false → Calm P B w0 L o (A i) (V i)) ∧ (Region.wanted o (yielded l.toArray (A i).tmps) = false → V i = undef) ∧ (isSt o.op = true → StOk P S o (A i) ∧ V i = undef))
    {L' : List (Nat × Array Value × TypeId)} (hL' : L' = L ∨ (L' = (S.g, S.new, S.t) :: L ∧ ∃ i o, i < n ∧ l[i]? = some o ∧ isSt o.op = true))
    (hA : afterAl P B w0 (fun a w => wpList P l.toArray Q (l.drop n) a w) (l.take n) L' (A n)) :
    ∀ (f : Nat) (listed : Array Bool) (a : Act) (w : World) (γ : Nat → Nat), HeadInv .any l.toArray n listed → Sim B w0 L S l n V (A 0) (zeroOf P) γ listed a w → cntB (fun i => !listed.getD i true) n = f →
      wpAny P .any l.toArray Q (f + (l.length - n)) listed a w := by
  have hs1 : ∀ i o, i < n → l[i]? = some o → A (i + 1) = (A i).put o.dst (V i) := fun i o hi ho => (hs i o hi ho).1
  intro f
  induction f with
  | zero =>
    intro listed a w γ inv sim hc
    have hall : ∀ i, i < n → listed.getD i true = true := fun i hi => by
      have := cntB_zero n hc i hi
      simpa using this
    have hall' : ∀ i, i < n → listed.getD i false = true := fun i hi => by
      have h1 := hall i hi
      have hlt : i < listed.size := by rw [inv.size]; simp; omega
      simp [hlt] at h1 ⊢; exact h1
    have hl : listed = (List.replicate n true ++ List.replicate (l.length - n) false).toArray := by
      have hsz := inv.size
      simp only [List.size_toArray] at hsz
      apply Array.ext
      · simp; omega
      · intro i h1 h2
        simp only [List.getElem_toArray]
        by_cases hi : i < n
        · have h3 := hall i hi
          simp only [Array.getD_eq_getD_getElem?, Array.getElem?_eq_getElem h1, Option.getD_some] at h3
          rw [h3, List.getElem_append_left (by simpa using hi)]
          simp
        · have h3 := inv.tail i (by omega) (by simp; omega)
          simp only [Array.getD_eq_getD_getElem?, Array.getElem?_eq_getElem h1, Option.getD_some] at h3
          rw [h3, List.getElem_append_right (by simpa using hi)]
          simp
    have hRL : Rws B w0 w L' ∧ ∀ x, x ∈ L' → ∀ i o, i < n → l[i]? = some o → isAl o.op = true → γ i ≠ x.1 := by
      have hin' : ∀ x, x ∈ L → ∀ i o, i < n → l[i]? = some o → isAl o.op = true → γ i ≠ x.1 := fun x hx i o hi ho hal => by
        obtain ⟨t, ht⟩ := isAl_spec hal
        exact ((sim.row i o t hi ho (hall' i hi) ht).2.2 x hx).symm
      rcases hL' with rfl | ⟨rfl, hex⟩
      · exact ⟨sim.rws, hin'⟩
      · obtain ⟨s1, s2, s3, s4, s5, s6⟩ := sim.srow hex
        have hstored : Stored l n listed := by
          obtain ⟨i, o, hi, ho, hs⟩ := hex
          exact ⟨i, o, hi, ho, hs, hall' i hi⟩
        refine ⟨sim.rws.add s1 (s3 hstored) s5, fun x hx i o hi ho hal => ?_⟩
        rcases List.mem_cons.1 hx with rfl | hx
        · exact s6 i o hi ho (hall' i hi) hal
        · exact hin' x hx i o hi ho hal
    have H : wpList P l.toArray Q (l.drop n) a w :=
      afterAl_end (K := fun a w => wpList P l.toArray Q (l.drop n) a w) hs1 (Nat.le_of_lt hn) hok sim hall' n 0 L' (A n) (by omega) hRL.1 (fun x hx => Or.inl (hRL.2 x hx))
        (lexA_tmps hs1 (Nat.le_of_lt hn) hok n (Nat.le_refl n)).1 (lexA_tmps hs1 (Nat.le_of_lt hn) hok n (Nat.le_refl n)).2.1 (fun _ _ => rfl) (fun j _ _ hj => absurd hj (Nat.not_lt_zero j)) (by simpa using hA)
    have := wpAny_of_seq (md := .any) (Q' := Q) (ops := l.toArray) (l.drop n) n listed a w (fun j => by simp [List.getElem?_drop]) (by rw [hl]; simpa using hseq) H
    simpa using this
  | succ f ih =>
    intro listed a w γ inv sim hc
    have hsz : listed.size = l.length := by simpa using inv.size
    rw [show f + 1 + (l.length - n) = (f + (l.length - n)) + 1 by omega]
    obtain ⟨i0, hi0, hun0⟩ := cntB_all n (by rw [hc]; omega)
    have hun0 : listed.getD i0 true = false := by simpa using hun0
    refine ⟨fun h0 => absurd h0 (ready_some (Nat.le_of_lt hn) hsz hok i0 hi0 hun0), fun i hi => ?_⟩
    obtain ⟨hun, o, ho, hall⟩ := mem_ready.1 hi
    have ho' : l[i]? = some o := by simpa using ho
    have hin : i < n := by
      rcases Nat.lt_or_ge i n with h | h
      · exact h
      · exact absurd hi (tail_waits hsink hchain (by simpa using hn) inv (n - i0) i0 rfl hi0 hun0 i h)
    have hunF : listed.getD i false = false := getD_both hun
    have hoki := hok i o hin ho'
    have hcnt : cntB (fun j => !(listed.setIfInBounds i true).getD j true) n = f := by
      have hlt : i < listed.size := by rw [hsz]; omega
      have := cntB_set (p := fun j => !listed.getD j true) (q := fun j => !(listed.setIfInBounds i true).getD j true) (i := i) (by simp only [hun]; rfl) (by simp [hlt]) (fun j hj => by simp only [getD_set_ne true (fun e => hj e.symm)]) n hin
      omega
    have inv' := inv.set hi hin
    obtain ⟨g1, _, g3, g4⟩ := lexA_tmps hs1 (Nat.le_of_lt hn) hok i (Nat.le_of_lt hin)
    have slot : ∀ (j : Nat) (p : Oper) (t : Tmp), j < i → l[j]? = some p → Region.waitsFor .any l.toArray i j = true → isAl p.op = false → p.dst = some t → a.tmps[t]? = (A i).tmps[t]? := fun j p t hji hp hwait hpa hd => by
      by_cases hts : t < (A 0).tmps.size
      · obtain ⟨o2, ho2, e, he, hb, hon⟩ := Region.waitsFor_spec hwait
        have e2 : o = o2 := Option.some.inj (ho.symm.trans ho2)
        subst e2
        have hlj := hall e he hb
        rw [hon] at hlj
        rw [sim.val j p t (by omega) hp hlj hpa hd hts, g4 j p t hji hp hd hts]
      · rw [Array.getElem?_eq_none (by rw [sim.size]; exact Nat.le_of_not_lt hts), Array.getElem?_eq_none (by rw [g1]; exact Nat.le_of_not_lt hts)]
    have hwant : Region.wanted o (yielded l.toArray a.tmps) = Region.wanted o (yielded l.toArray (A i).tmps) := by
      unfold Region.wanted
      cases hgd : o.guard with
      | none => rfl
      | some gb =>
        obtain ⟨g, b⟩ := gb
        obtain ⟨_, _, hgi, hwait, p, hp, hpa⟩ := hoki.guard g b hgd
        have e : yielded l.toArray a.tmps g = yielded l.toArray (A i).tmps g := by
          unfold yielded
          have hp' : l.toArray[g]? = some p := by simpa using hp
          rw [hp']
          cases hd : p.dst with
          | none => simp [hd]
          | some t =>
            have := slot g p t hgi hp hwait hpa hd
            simp [hd, this]
        simp only [e]
    unfold wpOp
    rw [ho]
    simp only []
    rw [hwant]
    cases hwb : Region.wanted o (yielded l.toArray (A i).tmps) with
    | false =>
      have hboth : isAl o.op = false ∧ isSt o.op = false := by
        cases hgd : o.guard with
        | none => unfold Region.wanted at hwb; rw [hgd] at hwb; cases hwb
        | some gb => exact ⟨(hoki.guard gb.1 gb.2 hgd).1, (hoki.guard gb.1 gb.2 hgd).2.1⟩
      have hv := (hs i o hin ho').2.2.1 hwb
      have sim' := sim.next hin ho' hoki hboth.1 hboth.2 (Below.refl _ _)
      rw [hv] at sim'
      simp only [Bool.false_eq_true, if_false]
      exact ih _ _ _ _ inv' sim' hcnt
    | true =>
    simp only [if_true]
    refine Or.inl ?_
    unfold Oper.wp
    cases hal : isAl o.op with
    | true =>
      obtain ⟨t, ht⟩ := isAl_spec hal
      obtain ⟨z, hz⟩ := afterAl_zero _ _ _ hA o t (List.mem_iff_getElem?.2 ⟨i, by rw [List.getElem?_take, if_pos hin]; exact ho'⟩) ht
      unfold execOp
      simp only [ht, Instr.alloc, Sem.run_bind, hz, Result.andThen_ok]
      have sim' := sim.nextAl hin ho' hunF hoki ht
      rw [zeroOf_eq hz w] at sim'
      exact ih _ _ _ _ inv' sim' hcnt
    | false =>
      have he : execOp a.eval o = execOp (A i).eval o := by
        refine execOp_congr o (fun cs b => Region.noSelect_spec hsel i o cs b ho) fun x hx => ?_
        cases x with
        | tmp t =>
          show a.tmps.getD t undef = (A i).tmps.getD t undef
          have key : a.tmps[t]? = (A i).tmps[t]? := by
            by_cases hd : ∃ j p, j < n ∧ l[j]? = some p ∧ p.dst = some t
            · obtain ⟨j, p, hj, hp, hd⟩ := hd
              obtain ⟨hji, hwait, hpa⟩ := hoki.use j p t hj hp hx hd
              exact slot j p t hji hp hwait hpa hd
            · have hno : ∀ j p, j < n → l[j]? = some p → p.dst ≠ some t := fun j p hj hp hd' => hd ⟨j, p, hj, hp, hd'⟩
              rw [sim.keep t hno, g3 t (fun j p hj hp => hno j p (by omega) hp)]
          simp only [Array.getD_eq_getD_getElem?, key]
        | const v => rfl
        | global g => rfl
        | func f => rfl
      rw [he]
      cases hst : isSt o.op with
      | true =>
        obtain ⟨⟨x, y, hop, hx, hy, hi1, hi2, hi3⟩, hv⟩ := (hs i o hin ho').2.2.2 hst
        obtain ⟨s1, s2, s3, s4, s5, s6⟩ := sim.srow ⟨i, o, hin, ho', hst⟩
        have hnot : ¬ Stored l n listed := by
          rintro ⟨j, p, hj, hp, hps, hl⟩
          by_cases e : j = i
          · subst e; rw [hunF] at hl; cases hl
          · exact hoki.one j p hj hp e hst hps
        have hrun : (execOp (A i).eval o).run P w = .ok .skip (w.setRow S.g S.new) := by
          unfold execOp
          simp only [hop, hx, hy, Instr.storeAt, Instr.sureAddr, Sem.run_bind, Sem.run_pure, Result.andThen_ok, run_storeVar_row w S.g S.t S.t S.old S.new (s4 hnot) hi1 hi2 hi3]
        rw [hrun]
        exact ih _ _ _ _ inv' (sim.nextSt hin ho' (by rw [hsz]; omega) hoki hst hv) hcnt
      | false =>
      have hcalm := (hs i o hin ho').2.1 hwb hal hst w sim.rws
      generalize (execOp (A i).eval o).run P w = r at hcalm
      cases r with
      | halt x w' => exact absurd hcalm id
      | ok nx w' =>
        cases nx with
        | value u =>
          obtain ⟨e1, e2⟩ := hcalm
          subst e1; subst e2
          exact ih _ _ _ _ inv' (sim.next hin ho' hoki hal hst (Below.refl _ _)) hcnt
        | enter fid args =>
          obtain ⟨e1, hcall⟩ := hcalm
          subst e1
          refine hcall.mono fun e w'' ⟨he, hb⟩ => ?_
          subst he
          exact ih _ _ _ _ inv' (sim.next hin ho' hoki hal hst hb) hcnt
        | _ => exact absurd hcalm id

/-- One walk in the order of the text serves every order; a variable may be written in the midst. -/
theorem wp_region_calm1 {id : Nat} {Q : Exit → Act → World → Prop} {a : Act} {w : World} (n : Nat) {L' : List (Nat × Array Value × TypeId)} (hm : P.follows .mixedOrders = true) (hB : sideB n l = true) (hR : Rws B w0 w L)
    (hL' : L' = L ∨ (L' = (S.g, S.new, S.t) :: L ∧ ∃ i o, i < n ∧ l[i]? = some o ∧ isSt o.op = true))
    (hS : (∃ i o, i < n ∧ l[i]? = some o ∧ isSt o.op = true) → B ≤ S.g ∧ w.heap[S.g]? = some (.cells S.old S.t (0, 0)) ∧ ∀ x, x ∈ L → x.1 ≠ S.g)
    (h : lexC P B w0 L S l.toArray (fun a' => afterAl P B w0 (fun a w => wpList P l.toArray Q (l.drop n) a w) (l.take n) L' a') n l a) : (Code.region id l.toArray true).wp P Q a w := by
  unfold sideB at hB
  simp only [Bool.and_eq_true, decide_eq_true_eq] at hB
  obtain ⟨⟨⟨⟨⟨hsel, hn⟩, hsink⟩, hchain⟩, hokB⟩, hseq⟩ := hB
  have hok : ∀ i o, i < n → l[i]? = some o → Ok l n i o := fun i o hi ho => okAt_spec ho (List.all_eq_true.1 hokB i (List.mem_range.2 hi))
  obtain ⟨V, A, h0, hQ, hs⟩ := lexC_spec n l a (Nat.le_of_lt hn) h
  have inv0 : HeadInv .any l.toArray n (Array.replicate l.toArray.size false) :=
    ⟨by simp, fun j oj _ hl => (by rw [getD_replicate_false] at hl; cases hl), fun t _ ht => getD_in (by simpa using ht) (getD_replicate_false _ _)⟩
  have hun : ∀ i, (Array.replicate l.toArray.size false).getD i false = true → False := fun i hi => by rw [getD_replicate_false] at hi; cases hi
  have sim0 : Sim B w0 L S l n V (A 0) (zeroOf P) (fun _ => 0) (Array.replicate l.toArray.size false) a { w with drawn := w.drawn + 1 } := by
    rw [h0]
    exact ⟨rfl, rfl, fun _ _ => rfl, fun i _ _ _ _ hl => (hun i hl).elim, fun i _ _ _ _ hl => (hun i hl).elim, hR.drew, fun i _ _ _ _ hl => (hun i hl).elim, fun i _ _ _ _ _ _ _ _ _ hl => (hun i hl).elim,
      fun hex => ⟨(hS hex).1, (Array.getElem?_eq_some_iff.1 (hS hex).2.1).1, fun ⟨i, _, _, _, _, hl⟩ => (hun i hl).elim, fun _ => (hS hex).2.1, (hS hex).2.2, fun i _ _ _ hl => (hun i hl).elim⟩⟩
  have hcn : cntB (fun i => !(Array.replicate l.toArray.size false).getD i true) n = n := by
    have key : ∀ m, m ≤ n → cntB (fun i => !(Array.replicate l.toArray.size false).getD i true) m = m := by
      intro m
      induction m with
      | zero => intro _; rfl
      | succ m ih =>
        intro hm
        have hlt : m < l.length := by omega
        simp only [cntB]
        rw [ih (by omega)]
        simp [hlt]
    exact key n (Nat.le_refl n)
  have := calm_any hsel hn hsink hchain hseq hok hs hL' hQ n _ a _ _ inv0 sim0 hcn
  refine wp_region_any hm ?_
  rw [show n + (l.length - n) = l.toArray.size by simp; omega] at this
  exact this

def noSt (n : Nat) (l : List Oper) : Bool := (l.take n).all fun o => !isSt o.op
theorem noSt_spec (h : noSt n l = true) : ¬ ∃ i o, i < n ∧ l[i]? = some o ∧ isSt o.op = true := by
  rintro ⟨i, o, hi, ho, hs⟩
  have h1 := List.all_eq_true.1 h o (List.mem_iff_getElem?.2 ⟨i, by rw [List.getElem?_take, if_pos hi]; exact ho⟩)
  rw [hs] at h1
  cases h1

/-- One walk in the order of the text serves every order. -/
theorem wp_region_calm {id : Nat} {Q : Exit → Act → World → Prop} {a : Act} {w : World} (n : Nat) (hm : P.follows .mixedOrders = true) (hB : (sideB n l && noSt n l) = true) (hR : Rws B w0 w L)
    (h : lexC P B w0 L ⟨0, #[], #[], 0⟩ l.toArray (fun a' => afterAl P B w0 (fun a w => wpList P l.toArray Q (l.drop n) a w) (l.take n) L a') n l a) : (Code.region id l.toArray true).wp P Q a w := by
  rw [Bool.and_eq_true] at hB
  exact wp_region_calm1 n hm hB.1 hR (Or.inl rfl) (fun hex => absurd hex (noSt_spec hB.2)) h

/-- The same where one variable is written in the midst. -/
theorem wp_region_calmS {id : Nat} {Q : Exit → Act → World → Prop} {a : Act} {w : World} (n : Nat) (S : StRow) (hm : P.follows .mixedOrders = true) (hB : (sideB n l && !noSt n l) = true) {L0 : List (Nat × Array Value × TypeId)} (hR : Rws B w0 w L0) (hp : Pick L0 (S.g, S.old, S.t) L)
    (h : lexC P B w0 L S l.toArray (fun a' => afterAl P B w0 (fun a w => wpList P l.toArray Q (l.drop n) a w) (l.take n) ((S.g, S.new, S.t) :: L) a') n l a) : (Code.region id l.toArray true).wp P Q a w := by
  rw [Bool.and_eq_true] at hB
  have hex : ∃ i o, i < n ∧ l[i]? = some o ∧ isSt o.op = true := by
    refine Classical.byContradiction fun hno => ?_
    have : noSt n l = true := by
      refine List.all_eq_true.2 fun o ho => ?_
      obtain ⟨i, hi⟩ := List.mem_iff_getElem?.1 ho
      rw [List.getElem?_take] at hi
      by_cases hin : i < n
      · rw [if_pos hin] at hi
        cases hs : isSt o.op with
        | false => rfl
        | true => exact absurd ⟨i, o, hin, hi, hs⟩ hno
      · rw [if_neg hin] at hi; cases hi
    rw [this] at hB
    exact absurd hB.2 (by decide)
  exact wp_region_calm1 n hm hB.1 (hR.sub hp.sub) (Or.inr ⟨rfl, hex⟩) (fun _ => ⟨(hR.row _ hp.mem).1, (hR.row _ hp.mem).2, hp.ne hR.nd⟩) h
end
end Go.Proofs.YtebhiplcoioenaaGreatDoor
/- A region that draws its order, in which calls (one behind the other) and slices' making lay new blocks only: one walk in the order of the text serves every order, where what a slot holds is told by a predicate that lasts. -/
namespace Go.Proofs.YtebhiplcoioenaaGreatDoor
open Go.RowKit
section
variable {P : Program} {B : Nat} {w0 ws : World} {L : List (Nat × Array Value × TypeId)} {l : List Oper} {n : Nat}

abbrev Prd := World → Value → Prop
theorem nbeq {s t : Nat} (h : s ≠ t) : Nat.beq s t = false := by
  cases hb : Nat.beq s t with
  | false => rfl
  | true => exact absurd (Nat.eq_of_beq_eq_true hb) h
/-- It lasts where only new blocks are laid. -/
def Stb (R : Prd) : Prop := ∀ w w' v, Below w.heap.size w w' → R w v → R w' v
abbrev Env := List (Option Tmp × Prd)
def look : Env → Nat → Option Prd
  | [], _ => none
  | (none, _) :: Γ, t => look Γ t
  | (some s, R) :: Γ, t => bif Nat.beq s t then some R else look Γ t
/-- What is known of an operand's value. -/
def AtE (a0 : Act) (Γ : Env) (w : World) (x : Operand) (v : Value) : Prop :=
  match x with
  | .tmp t => (match look Γ t with
    | some R => R w v
    | none => v = a0.tmps.getD t undef)
  | y => v = a0.eval y
def softUpon (P : Program) (w : World) (R : Prd) : Result Next → Prop
  | .ok (.value u) w' => R w' u ∧ Below w.heap.size w w'
  | .ok (.enter f args) w' => w' = w ∧ Calls P f args w fun e w'' => ∃ v, e = .returned v ∧ R w'' v ∧ Below w.heap.size w w''
  | _ => False
def SoftOp (P : Program) (B : Nat) (w0 ws : World) (L : List (Nat × Array Value × TypeId)) (a0 : Act) (Γ : Env) (o : Oper) (R : Prd) : Prop :=
  ∀ (w : World) (e : Operand → Value), Rws B w0 w L → Below ws.heap.size ws w → (∀ x, x ∈ o.op.operands → AtE a0 Γ w x (e x)) → softUpon P w R ((execOp e o).run P w)
/-- Behind the region: whatever the slots hold by their predicates. -/
def softEnd (K : Act → World → Prop) (w : World) : Env → Act → Prop
  | [], a => K a w
  | (d, R) :: Γ, a => ∀ v, R w v → softEnd K w Γ (a.put d v)
def softW (P : Program) (B : Nat) (w0 ws : World) (L : List (Nat × Array Value × TypeId)) (a0 : Act) (K : Act → World → Prop) : Nat → List Oper → Env → Prop
  | 0, _, Γ => ∀ w, Rws B w0 w L → Below ws.heap.size ws w → softEnd K w Γ.reverse a0
  | _ + 1, [], Γ => ∀ w, Rws B w0 w L → Below ws.heap.size ws w → softEnd K w Γ.reverse a0
  | n + 1, o :: l, Γ => ∃ R, Stb R ∧ SoftOp P B w0 ws L a0 Γ o R ∧ softW P B w0 ws L a0 K n l ((o.dst, R) :: Γ)

def okS (l : List Oper) (n i : Nat) : Bool :=
  match l[i]? with
  | none => false
  | some o => o.guard.isNone && o.dst.isSome && o.after.all (fun e => !Region.binds .any e || decide (e.on < i)) &&
    (List.range n).all fun j => match l[j]? with
      | none => false
      | some p => (i == j || o.dst != p.dst) &&
        o.op.operands.all fun x => match x with
          | .tmp t => p.dst != some t || (decide (j < i) && Region.waitsFor .any l.toArray i j)
          | _ => true
def sideS (n : Nat) (l : List Oper) : Bool :=
  decide (n < l.length) && Region.sinkB .any l.toArray n && Region.chainB .any l.toArray n && (List.range n).all (okS l n) &&
    Region.seqB .any l.toArray (l.length - n) n ((List.replicate n true ++ List.replicate (l.length - n) false).toArray)

structure OkS (l : List Oper) (n i : Nat) (o : Oper) : Prop where
  guard : o.guard = none
  dst1 : ∃ t, o.dst = some t
  back : ∀ e, e ∈ o.after → Region.binds .any e = true → e.on < i
  dst : ∀ j p, j < n → l[j]? = some p → j ≠ i → o.dst ≠ p.dst
  use : ∀ j p t, j < n → l[j]? = some p → Operand.tmp t ∈ o.op.operands → p.dst = some t → j < i ∧ Region.waitsFor .any l.toArray i j = true

theorem okS_spec {i : Nat} {o : Oper} (hi : l[i]? = some o) (h : okS l n i = true) : OkS l n i o := by
  unfold okS at h
  rw [hi] at h
  simp only [Bool.and_eq_true] at h
  obtain ⟨⟨⟨hg, hd⟩, ha⟩, hr⟩ := h
  have key : ∀ j p, j < n → l[j]? = some p → (i == j || o.dst != p.dst) = true ∧ (o.op.operands.all fun x => match x with
          | .tmp t => p.dst != some t || (decide (j < i) && Region.waitsFor .any l.toArray i j)
          | _ => true) = true := by
    intro j p hj hp
    have h1 := List.all_eq_true.1 hr j (List.mem_range.2 hj)
    rw [hp] at h1
    simpa only [Bool.and_eq_true] using h1
  refine ⟨by simpa using hg, Option.isSome_iff_exists.1 hd, ?_, ?_, ?_⟩
  · intro e he hb
    have h1 := Array.all_eq_true_iff_forall_mem.1 ha e he
    rw [hb] at h1
    simpa using h1
  · intro j p hj hp hji hd
    have h1 := (key j p hj hp).1
    rw [hd] at h1
    simp only [bne_self_eq_false, Bool.or_false, beq_iff_eq] at h1
    exact hji h1.symm
  · intro j p t hj hp hx ht
    have h1 := Array.all_eq_true_iff_forall_mem.1 (key j p hj hp).2 _ hx
    simp only [ht, bne_self_eq_false, Bool.false_or, Bool.and_eq_true, decide_eq_true_eq] at h1
    exact h1

/-- The slots that the first i operations write. -/
def envOf (l : List Oper) (Rs : Nat → Prd) : Nat → Env
  | 0 => []
  | i + 1 => ((l[i]?).bind (·.dst), Rs i) :: envOf l Rs i

theorem look_env {Rs : Nat → Prd} (hok : ∀ i o, i < n → l[i]? = some o → OkS l n i o) (hn : n ≤ l.length) : ∀ k, k ≤ n →
    (∀ t, (∀ j p, j < k → l[j]? = some p → p.dst ≠ some t) → look (envOf l Rs k) t = none) ∧ ∀ j p t, j < k → l[j]? = some p → p.dst = some t → look (envOf l Rs k) t = some (Rs j)
  | 0, _ => ⟨fun _ _ => rfl, fun j _ _ hj => absurd hj (Nat.not_lt_zero j)⟩
  | k + 1, hk => by
    obtain ⟨h1, h2⟩ := look_env (Rs := Rs) hok hn k (by omega)
    obtain ⟨o, ho⟩ : ∃ o, l[k]? = some o := ⟨l[k], List.getElem?_eq_getElem (by omega)⟩
    obtain ⟨s, hs⟩ := (hok k o (by omega) ho).dst1
    have he : envOf l Rs (k + 1) = (some s, Rs k) :: envOf l Rs k := by
      show ((l[k]?).bind (·.dst), Rs k) :: envOf l Rs k = _
      rw [ho]; simp [hs]
    rw [he]
    have hb : ∀ t, look ((some s, Rs k) :: envOf l Rs k) t = bif Nat.beq s t then some (Rs k) else look (envOf l Rs k) t := fun _ => rfl
    refine ⟨fun t ht => ?_, fun j p t hj hp hd => ?_⟩
    · have hne : s ≠ t := fun e => ht k o (by omega) ho (by rw [hs, e])
      rw [hb, show Nat.beq s t = false from nbeq hne]
      exact h1 t fun j p hj hp => ht j p (by omega) hp
    · by_cases e : j = k
      · subst e
        have e2 : o = p := Option.some.inj (ho.symm.trans hp)
        subst e2
        rw [hs] at hd
        have e3 : s = t := Option.some.inj hd
        subst e3
        rw [hb, Nat.beq_refl]; rfl
      · have hne : s ≠ t := fun e2 => (hok k o (by omega) ho).dst j p (by omega) hp e (by rw [hs, hd, e2])
        rw [hb, show Nat.beq s t = false from nbeq hne]
        exact h2 j p t (by omega) hp hd

theorem softW_spec {a0 : Act} {K : Act → World → Prop} (full : List Oper) : ∀ (n k : Nat) (l : List Oper) (Rs0 : Nat → Prd), n ≤ l.length → (∀ j, l[j]? = full[k + j]?) → softW P B w0 ws L a0 K n l (envOf full Rs0 k) →
    ∃ Rs : Nat → Prd, (∀ j, j < k → Rs j = Rs0 j) ∧ (∀ i o, k ≤ i → i < k + n → full[i]? = some o → Stb (Rs i) ∧ SoftOp P B w0 ws L a0 (envOf full Rs i) o (Rs i)) ∧ ∀ w, Rws B w0 w L → Below ws.heap.size ws w → softEnd K w (envOf full Rs (k + n)).reverse a0
  | 0, k, _, Rs0, _, _, h => ⟨Rs0, fun _ _ => rfl, fun i _ h1 h2 => absurd h2 (by omega), h⟩
  | _ + 1, _, [], _, hn, _, _ => absurd hn (Nat.not_succ_le_zero _)
  | n + 1, k, o :: l, Rs0, hn, hl, h => by
    obtain ⟨R, hst, hop, h⟩ := h
    have ho : full[k]? = some o := by simpa using (hl 0).symm
    have henv : ∀ (R1 R2 : Nat → Prd) m, (∀ j, j < m → R1 j = R2 j) → envOf full R1 m = envOf full R2 m := by
      intro R1 R2 m hm
      induction m with
      | zero => rfl
      | succ m ih =>
        show _ :: _ = _ :: _
        rw [ih (fun j hj => hm j (by omega)), hm m (by omega)]
    have e1 : envOf full (fun j => if j = k then R else Rs0 j) k = envOf full Rs0 k := henv _ _ k fun j hj => if_neg (by omega)
    have e2 : envOf full (fun j => if j = k then R else Rs0 j) (k + 1) = (o.dst, R) :: envOf full Rs0 k := by
      show ((full[k]?).bind (·.dst), (if k = k then R else Rs0 k)) :: envOf full _ k = _
      rw [ho, e1, if_pos rfl]; rfl
    rw [← e2] at h
    obtain ⟨Rs, hs1, hs2, hs3⟩ := softW_spec full n (k + 1) l _ (Nat.le_of_succ_le_succ hn) (fun j => by have := hl (j + 1); rw [List.getElem?_cons_succ] at this; rw [this]; congr 1; omega) h
    refine ⟨Rs, fun j hj => by rw [hs1 j (by omega), if_neg (by omega)], fun i p h1 h2 hp => ?_, by rw [show k + (n + 1) = k + 1 + n by omega]; exact hs3⟩
    by_cases e : i = k
    · subst e
      have e3 : o = p := Option.some.inj (ho.symm.trans hp)
      subst e3
      have e4 : Rs i = R := by rw [hs1 i (by omega), if_pos rfl]
      have e5 : envOf full Rs i = envOf full Rs0 i := henv _ _ i fun j hj => by rw [hs1 j (by omega), if_neg (by omega)]
      rw [e4, e5]
      exact ⟨hst, hop⟩
    · exact hs2 i p (by omega) (by omega) hp

structure SimS (B : Nat) (w0 ws : World) (L : List (Nat × Array Value × TypeId)) (l : List Oper) (n : Nat) (Rs : Nat → Prd) (a0 : Act) (listed : Array Bool) (a : Act) (w : World) : Prop where
  size : a.tmps.size = a0.tmps.size
  defers : a.defers = a0.defers
  keep : ∀ t, (∀ i o, i < n → l[i]? = some o → o.dst ≠ some t) → a.tmps[t]? = a0.tmps[t]?
  val : ∀ i o t, i < n → l[i]? = some o → listed.getD i false = true → o.dst = some t → ∃ v, a.tmps[t]? = some v ∧ Rs i w v
  rws : Rws B w0 w L
  bel : Below ws.heap.size ws w

theorem SimS.next {Rs : Nat → Prd} {a0 : Act} {listed : Array Bool} {a : Act} {w w' : World} (h : SimS B w0 ws L l n Rs a0 listed a w) {i : Nat} {o : Oper} (hi : i < n) (ho : l[i]? = some o)
    (hok : OkS l n i o) (hst : ∀ i o, i < n → l[i]? = some o → Stb (Rs i)) (hsz : ∀ t, o.dst = some t → t < a0.tmps.size) {v : Value} (hv : Rs i w' v) (hb : Below w.heap.size w w') : SimS B w0 ws L l n Rs a0 (listed.setIfInBounds i true) (a.put o.dst v) w' := by
  refine ⟨by rw [put_size, h.size], by rw [put_defers, h.defers], fun t ht => ?_, fun j p t hj hp hl hd => ?_, h.rws.call hb, h.bel.trans (hb.mono h.bel.size)⟩
  · rw [put_tmps, if_neg (ht i o hi ho)]
    exact h.keep t ht
  · by_cases e : j = i
    · subst e
      have e2 : o = p := Option.some.inj (ho.symm.trans hp)
      subst e2
      exact ⟨v, by rw [put_tmps, if_pos hd, if_pos (by rw [h.size]; exact hsz t hd)], hv⟩
    · obtain ⟨u, hu, hr⟩ := h.val j p t hj hp (by rwa [getD_set_ne false (fun e' => e e'.symm)] at hl) hd
      exact ⟨u, by rw [put_tmps, if_neg (fun hd' => hok.dst j p hj hp e (by rw [hd', hd]))]; exact hu, hst j p hj hp _ _ _ hb hr⟩

theorem readyS_some {listed : Array Bool} (hn : n ≤ l.length) (hsz : listed.size = l.length) (hok : ∀ i o, i < n → l[i]? = some o → OkS l n i o) (i : Nat) : i < n → listed.getD i true = false → Region.ready .any l.toArray listed ≠ [] := by
  induction i using Nat.strongRecOn with
  | ind i ih =>
    intro hi hun
    obtain ⟨o, ho⟩ : ∃ o, l[i]? = some o := ⟨l[i], List.getElem?_eq_getElem (by omega)⟩
    by_cases hall : ∀ e, e ∈ o.after → Region.binds .any e = true → listed.getD e.on false = true
    · intro h0
      have : i ∈ Region.ready .any l.toArray listed := mem_ready.2 ⟨hun, o, by simpa using ho, hall⟩
      rw [h0] at this
      cases this
    · have hex : ∃ e, e ∈ o.after ∧ Region.binds .any e = true ∧ listed.getD e.on false = false := by
        refine Classical.byContradiction fun hno => hall fun e he hb => ?_
        cases hl : listed.getD e.on false with
        | true => rfl
        | false => exact absurd ⟨e, he, hb, hl⟩ hno
      obtain ⟨e, he, hb, hl⟩ := hex
      have hlt := (hok i o hi ho).back e he hb
      exact ih e.on hlt (by omega) (getD_in (by omega) hl)

/-- All that the predicates tell at the end is what stands there. -/
theorem softEnd_use {Rs : Nat → Prd} {K : Act → World → Prop} {a : Act} {w : World} (hn : n ≤ l.length) (hok : ∀ i o, i < n → l[i]? = some o → OkS l n i o)
    (hv : ∀ i o t, i < n → l[i]? = some o → o.dst = some t → ∃ v, a.tmps[t]? = some v ∧ Rs i w v) :
    ∀ (d k : Nat) (b : Act), k + d = n → b.tmps.size = a.tmps.size → b.defers = a.defers → (∀ t, (∀ j p, k ≤ j → j < n → l[j]? = some p → p.dst ≠ some t) → b.tmps[t]? = a.tmps[t]?) →
      softEnd K w ((envOf l Rs n).reverse.drop k) b → K a w := by
  have hlen : ∀ m, (envOf l Rs m).length = m := by
    intro m; induction m with
    | zero => rfl
    | succ m ih => show (envOf l Rs m).length + 1 = _; rw [ih]
  have hget : ∀ m k, k < m → (envOf l Rs m).reverse[k]? = some ((l[k]?).bind (·.dst), Rs k) := by
    intro m
    induction m with
    | zero => intro k hk; exact absurd hk (Nat.not_lt_zero k)
    | succ m ih =>
      intro k hk
      show (((l[m]?).bind (·.dst), Rs m) :: envOf l Rs m).reverse[k]? = _
      rw [List.reverse_cons]
      by_cases e : k = m
      · subst e
        rw [List.getElem?_append_right (by simp [hlen])]
        simp [hlen]
      · rw [List.getElem?_append_left (by simp [hlen]; omega)]
        exact ih k (by omega)
  intro d
  induction d with
  | zero =>
    intro k b hk h1 h2 h3 h
    rw [List.drop_eq_nil_of_le (by simp [hlen]; omega)] at h
    have e : a = b := act_ext h2.symm fun t => (h3 t fun j p h4 h5 => absurd h5 (by omega)).symm
    rw [e]; exact h
  | succ d ih =>
    intro k b hk h1 h2 h3 h
    obtain ⟨o, ho⟩ : ∃ o, l[k]? = some o := ⟨l[k], List.getElem?_eq_getElem (by omega)⟩
    obtain ⟨s, hs⟩ := (hok k o (by omega) ho).dst1
    obtain ⟨v, hva, hvr⟩ := hv k o s (by omega) ho hs
    have hdrop : (envOf l Rs n).reverse.drop k = (some s, Rs k) :: (envOf l Rs n).reverse.drop (k + 1) := by
      have hlt : k < (envOf l Rs n).reverse.length := by simp [hlen]; omega
      rw [List.drop_eq_getElem_cons hlt]
      congr 1
      have h4 := hget n k (by omega)
      rw [List.getElem?_eq_getElem hlt, ho] at h4
      have h5 := Option.some.inj h4
      rw [h5]; simp [hs]
    rw [hdrop] at h
    refine ih (k + 1) (b.put (some s) v) (by omega) (by rw [put_size, h1]) (by rw [put_defers, h2]) (fun t ht => ?_) (h v hvr)
    rw [put_tmps]
    by_cases e : s = t
    · subst e
      have hlt : s < a.tmps.size := (Array.getElem?_eq_some_iff.1 hva).1
      rw [if_pos rfl, if_pos (by rw [h1]; exact hlt), hva]
    · rw [if_neg (fun h => e (Option.some.inj h))]
      refine h3 t fun j p h4 h5 hp hd => ?_
      by_cases ejk : j = k
      · subst ejk
        have e2 : o = p := Option.some.inj (ho.symm.trans hp)
        subst e2
        rw [hs] at hd
        exact e (Option.some.inj hd)
      · exact ht j p (by omega) h5 hp hd

theorem soft_any {Q : Exit → Act → World → Prop} {Rs : Nat → Prd} {a0 : Act} (hn : n < l.length) (hsink : Region.sinkB .any l.toArray n = true) (hchain : Region.chainB .any l.toArray n = true)
    (hseq : Region.seqB .any l.toArray (l.length - n) n ((List.replicate n true ++ List.replicate (l.length - n) false).toArray) = true)
    (hok : ∀ i o, i < n → l[i]? = some o → OkS l n i o) (hT : ∀ i o t, i < n → l[i]? = some o → o.dst = some t → t < a0.tmps.size)
    (hs : ∀ i o, i < n → l[i]? = some o → Stb (Rs i) ∧ SoftOp P B w0 ws L a0 (envOf l Rs i) o (Rs i))
    (hE : ∀ w, Rws B w0 w L → Below ws.heap.size ws w → softEnd (fun a w => wpList P l.toArray Q (l.drop n) a w) w (envOf l Rs n).reverse a0) :
    ∀ (f : Nat) (listed : Array Bool) (a : Act) (w : World), HeadInv .any l.toArray n listed → SimS B w0 ws L l n Rs a0 listed a w → cntB (fun i => !listed.getD i true) n = f →
      wpAny P .any l.toArray Q (f + (l.length - n)) listed a w := by
  intro f
  induction f with
  | zero =>
    intro listed a w inv sim hc
    have hall : ∀ i, i < n → listed.getD i true = true := fun i hi => by
      have := cntB_zero n hc i hi
      simpa using this
    have hall' : ∀ i, i < n → listed.getD i false = true := fun i hi => by
      have h1 := hall i hi
      have hlt : i < listed.size := by rw [inv.size]; simp; omega
      simp [hlt] at h1 ⊢; exact h1
    have hl : listed = (List.replicate n true ++ List.replicate (l.length - n) false).toArray := by
      have hsz := inv.size
      simp only [List.size_toArray] at hsz
      apply Array.ext
      · simp; omega
      · intro i h1 h2
        simp only [List.getElem_toArray]
        by_cases hi : i < n
        · have h3 := hall i hi
          simp only [Array.getD_eq_getD_getElem?, Array.getElem?_eq_getElem h1, Option.getD_some] at h3
          rw [h3, List.getElem_append_left (by simpa using hi)]
          simp
        · have h3 := inv.tail i (by omega) (by simp; omega)
          simp only [Array.getD_eq_getD_getElem?, Array.getElem?_eq_getElem h1, Option.getD_some] at h3
          rw [h3, List.getElem_append_right (by simpa using hi)]
          simp
    have H : wpList P l.toArray Q (l.drop n) a w :=
      softEnd_use (K := fun a w => wpList P l.toArray Q (l.drop n) a w) (Nat.le_of_lt hn) hok (fun i o t hi ho hd => sim.val i o t hi ho (hall' i hi) hd) n 0 a0 (by omega) sim.size.symm sim.defers.symm
        (fun t ht => (sim.keep t fun i o hi ho => ht i o (Nat.zero_le _) hi ho).symm) (by simpa using hE w sim.rws sim.bel)
    have := wpAny_of_seq (md := .any) (Q' := Q) (ops := l.toArray) (l.drop n) n listed a w (fun j => by simp [List.getElem?_drop]) (by rw [hl]; simpa using hseq) H
    simpa using this
  | succ f ih =>
    intro listed a w inv sim hc
    have hsz : listed.size = l.length := by simpa using inv.size
    rw [show f + 1 + (l.length - n) = (f + (l.length - n)) + 1 by omega]
    obtain ⟨i0, hi0, hun0⟩ := cntB_all n (by rw [hc]; omega)
    have hun0 : listed.getD i0 true = false := by simpa using hun0
    refine ⟨fun h0 => absurd h0 (readyS_some (Nat.le_of_lt hn) hsz hok i0 hi0 hun0), fun i hi => ?_⟩
    obtain ⟨hun, o, ho, hall⟩ := mem_ready.1 hi
    have ho' : l[i]? = some o := by simpa using ho
    have hin : i < n := by
      rcases Nat.lt_or_ge i n with h | h
      · exact h
      · exact absurd hi (tail_waits hsink hchain (by simpa using hn) inv (n - i0) i0 rfl hi0 hun0 i h)
    have hoki := hok i o hin ho'
    have hcnt : cntB (fun j => !(listed.setIfInBounds i true).getD j true) n = f := by
      have hlt : i < listed.size := by rw [hsz]; omega
      have := cntB_set (p := fun j => !listed.getD j true) (q := fun j => !(listed.setIfInBounds i true).getD j true) (i := i) (by simp only [hun]; rfl) (by simp [hlt]) (fun j hj => by simp only [getD_set_ne true (fun e => hj e.symm)]) n hin
      omega
    have inv' := inv.set hi hin
    obtain ⟨hst, hop⟩ := hs i o hin ho'
    have hat : ∀ x, x ∈ o.op.operands → AtE a0 (envOf l Rs i) w x (a.eval x) := by
      intro x hx
      cases x with
      | tmp t =>
        show (match look (envOf l Rs i) t with
          | some R => R w (a.eval (.tmp t))
          | none => a.eval (.tmp t) = a0.tmps.getD t undef)
        by_cases hd : ∃ j p, j < n ∧ l[j]? = some p ∧ p.dst = some t
        · obtain ⟨j, p, hj, hp, hd⟩ := hd
          obtain ⟨hji, hwait⟩ := hoki.use j p t hj hp hx hd
          rw [(look_env (Rs := Rs) hok (Nat.le_of_lt hn) i (Nat.le_of_lt hin)).2 j p t hji hp hd]
          obtain ⟨o2, ho2, e, he, hb, hon⟩ := Region.waitsFor_spec hwait
          have e2 : o = o2 := Option.some.inj (ho.symm.trans ho2)
          subst e2
          have hlj := hall e he hb
          rw [hon] at hlj
          obtain ⟨v, hva, hvr⟩ := sim.val j p t hj hp hlj hd
          show Rs j w (a.tmps.getD t undef)
          rw [Array.getD_eq_getD_getElem?, hva]
          exact hvr
        · have hno : ∀ j p, j < n → l[j]? = some p → p.dst ≠ some t := fun j p hj hp hd' => hd ⟨j, p, hj, hp, hd'⟩
          rw [(look_env (Rs := Rs) hok (Nat.le_of_lt hn) i (Nat.le_of_lt hin)).1 t fun j p hj hp => hno j p (by omega) hp]
          show a.tmps.getD t undef = _
          rw [Array.getD_eq_getD_getElem?, Array.getD_eq_getD_getElem?, sim.keep t hno]
      | const v => rfl
      | global g => rfl
      | func f => rfl
    have hsoft := hop w a.eval sim.rws sim.bel hat
    unfold wpOp
    rw [ho]
    have hw : Region.wanted o (yielded l.toArray a.tmps) = true := by unfold Region.wanted; rw [hoki.guard]
    simp only [hw, if_true]
    refine Or.inl ?_
    unfold Oper.wp
    have hstall : ∀ i o, i < n → l[i]? = some o → Stb (Rs i) := fun i o hi ho => (hs i o hi ho).1
    generalize (execOp a.eval o).run P w = r at hsoft
    cases r with
    | halt x w' => exact absurd hsoft id
    | ok nx w' =>
      cases nx with
      | value u =>
        obtain ⟨e1, e2⟩ := hsoft
        exact ih _ _ _ inv' (sim.next hin ho' hoki hstall (fun t ht => hT i o t hin ho' ht) e1 e2) hcnt
      | enter fid args =>
        obtain ⟨e1, hcall⟩ := hsoft
        subst e1
        refine hcall.mono fun e w'' ⟨v, he, hr, hb⟩ => ?_
        subst he
        exact ih _ _ _ inv' (sim.next hin ho' hoki hstall (fun t ht => hT i o t hin ho' ht) hr hb) hcnt
      | _ => exact absurd hsoft id

/-- One walk in the order of the text serves every order. -/
theorem wp_region_soft {id : Nat} {Q : Exit → Act → World → Prop} {a : Act} {w : World} (n : Nat) (hm : P.follows .mixedOrders = true) (hB : sideS n l = true) (hT : ((l.take n).all fun o => match o.dst with | some t => decide (t < a.tmps.size) | none => true) = true) (hR : Rws B w0 w L)
    (h : softW P B w0 w L a (fun a w => wpList P l.toArray Q (l.drop n) a w) n l []) : (Code.region id l.toArray true).wp P Q a w := by
  unfold sideS at hB
  simp only [Bool.and_eq_true, decide_eq_true_eq] at hB
  obtain ⟨⟨⟨⟨hn, hsink⟩, hchain⟩, hokB⟩, hseq⟩ := hB
  have hok : ∀ i o, i < n → l[i]? = some o → OkS l n i o := fun i o hi ho => okS_spec ho (List.all_eq_true.1 hokB i (List.mem_range.2 hi))
  obtain ⟨Rs, _, hs, hE⟩ := softW_spec l n 0 l (fun _ _ _ => True) (Nat.le_of_lt hn) (fun j => by rw [Nat.zero_add]) h
  have inv0 : HeadInv .any l.toArray n (Array.replicate l.toArray.size false) :=
    ⟨by simp, fun j oj _ hl => (by rw [getD_replicate_false] at hl; cases hl), fun t _ ht => getD_in (by simpa using ht) (getD_replicate_false _ _)⟩
  have sim0 : SimS B w0 w L l n Rs a (Array.replicate l.toArray.size false) a { w with drawn := w.drawn + 1 } :=
    ⟨rfl, rfl, fun _ _ => rfl, fun i _ _ _ _ hl => (by rw [getD_replicate_false] at hl; cases hl), hR.drew, (Below.refl _ _).drew⟩
  have hcn : cntB (fun i => !(Array.replicate l.toArray.size false).getD i true) n = n := by
    have key : ∀ m, m ≤ n → cntB (fun i => !(Array.replicate l.toArray.size false).getD i true) m = m := by
      intro m
      induction m with
      | zero => intro _; rfl
      | succ m ih =>
        intro hm
        have hlt : m < l.length := by omega
        simp only [cntB]
        rw [ih (by omega)]
        simp [hlt]
    exact key n (Nat.le_refl n)
  have hTn : ∀ i o t, i < n → l[i]? = some o → o.dst = some t → t < a.tmps.size := fun i o t hi ho hd => by
    have h1 := List.all_eq_true.1 hT o (List.mem_iff_getElem?.2 ⟨i, by rw [List.getElem?_take, if_pos hi]; exact ho⟩)
    rw [hd] at h1
    simpa using h1
  have := soft_any hn hsink hchain hseq hok hTn (fun i o hi ho => hs i o (Nat.zero_le _) (by omega) ho) (by rw [Nat.zero_add] at hE; exact hE) n _ a _ inv0 sim0 hcn
  refine wp_region_any hm ?_
  rw [show n + (l.length - n) = l.toArray.size by simp; omega] at this
  exact this

/-! ### The same for operations in their order -/
def okQ (l : List Oper) (n i : Nat) : Bool :=
  match l[i]? with
  | none => false
  | some o => o.guard.isNone && o.dst.isSome &&
    (List.range n).all fun j => match l[j]? with
      | none => false
      | some p => (i == j || o.dst != p.dst) &&
        o.op.operands.all fun x => match x with
          | .tmp t => p.dst != some t || decide (j < i)
          | _ => true
def sideQ (n : Nat) (l : List Oper) : Bool := decide (n ≤ l.length) && (List.range n).all (okQ l n)
structure OkQ (l : List Oper) (n i : Nat) (o : Oper) : Prop where
  guard : o.guard = none
  dst1 : ∃ t, o.dst = some t
  dst : ∀ j p, j < n → l[j]? = some p → j ≠ i → o.dst ≠ p.dst
  use : ∀ j p t, j < n → l[j]? = some p → Operand.tmp t ∈ o.op.operands → p.dst = some t → j < i
theorem okQ_spec {i : Nat} {o : Oper} (hi : l[i]? = some o) (h : okQ l n i = true) : OkQ l n i o := by
  unfold okQ at h
  rw [hi] at h
  simp only [Bool.and_eq_true] at h
  obtain ⟨⟨hg, hd⟩, hr⟩ := h
  have key : ∀ j p, j < n → l[j]? = some p → (i == j || o.dst != p.dst) = true ∧ (o.op.operands.all fun x => match x with
          | .tmp t => p.dst != some t || decide (j < i)
          | _ => true) = true := by
    intro j p hj hp
    have h1 := List.all_eq_true.1 hr j (List.mem_range.2 hj)
    rw [hp] at h1
    simpa only [Bool.and_eq_true] using h1
  refine ⟨by simpa using hg, Option.isSome_iff_exists.1 hd, ?_, ?_⟩
  · intro j p hj hp hji hd
    have h1 := (key j p hj hp).1
    rw [hd] at h1
    simp only [bne_self_eq_false, Bool.or_false, beq_iff_eq] at h1
    exact hji h1.symm
  · intro j p t hj hp hx ht
    have h1 := Array.all_eq_true_iff_forall_mem.1 (key j p hj hp).2 _ hx
    simp only [ht, bne_self_eq_false, Bool.false_or, decide_eq_true_eq] at h1
    exact h1

theorem look_envQ {Rs : Nat → Prd} (hok : ∀ i o, i < n → l[i]? = some o → OkQ l n i o) (hn : n ≤ l.length) : ∀ k, k ≤ n →
    (∀ t, (∀ j p, j < k → l[j]? = some p → p.dst ≠ some t) → look (envOf l Rs k) t = none) ∧ ∀ j p t, j < k → l[j]? = some p → p.dst = some t → look (envOf l Rs k) t = some (Rs j)
  | 0, _ => ⟨fun _ _ => rfl, fun j _ _ hj => absurd hj (Nat.not_lt_zero j)⟩
  | k + 1, hk => by
    obtain ⟨h1, h2⟩ := look_envQ (Rs := Rs) hok hn k (by omega)
    obtain ⟨o, ho⟩ : ∃ o, l[k]? = some o := ⟨l[k], List.getElem?_eq_getElem (by omega)⟩
    obtain ⟨s, hs⟩ := (hok k o (by omega) ho).dst1
    have he : envOf l Rs (k + 1) = (some s, Rs k) :: envOf l Rs k := by
      show ((l[k]?).bind (·.dst), Rs k) :: envOf l Rs k = _
      rw [ho]; simp [hs]
    rw [he]
    have hb : ∀ t, look ((some s, Rs k) :: envOf l Rs k) t = bif Nat.beq s t then some (Rs k) else look (envOf l Rs k) t := fun _ => rfl
    refine ⟨fun t ht => ?_, fun j p t hj hp hd => ?_⟩
    · have hne : s ≠ t := fun e => ht k o (by omega) ho (by rw [hs, e])
      rw [hb, nbeq hne]
      exact h1 t fun j p hj hp => ht j p (by omega) hp
    · by_cases e : j = k
      · subst e
        have e2 : o = p := Option.some.inj (ho.symm.trans hp)
        subst e2
        rw [hs] at hd
        have e3 : s = t := Option.some.inj hd
        subst e3
        rw [hb, Nat.beq_refl]; rfl
      · have hne : s ≠ t := fun e2 => (hok k o (by omega) ho).dst j p (by omega) hp e (by rw [hs, hd, e2])
        rw [hb, nbeq hne]
        exact h2 j p t (by omega) hp hd

theorem softEnd_useQ {Rs : Nat → Prd} {K : Act → World → Prop} {a : Act} {w : World} (hn : n ≤ l.length) (hok : ∀ i o, i < n → l[i]? = some o → OkQ l n i o)
    (hv : ∀ i o t, i < n → l[i]? = some o → o.dst = some t → ∃ v, a.tmps[t]? = some v ∧ Rs i w v) :
    ∀ (d k : Nat) (b : Act), k + d = n → b.tmps.size = a.tmps.size → b.defers = a.defers → (∀ t, (∀ j p, k ≤ j → j < n → l[j]? = some p → p.dst ≠ some t) → b.tmps[t]? = a.tmps[t]?) →
      softEnd K w ((envOf l Rs n).reverse.drop k) b → K a w := by
  have hlen : ∀ m, (envOf l Rs m).length = m := by
    intro m; induction m with
    | zero => rfl
    | succ m ih => show (envOf l Rs m).length + 1 = _; rw [ih]
  have hget : ∀ m k, k < m → (envOf l Rs m).reverse[k]? = some ((l[k]?).bind (·.dst), Rs k) := by
    intro m
    induction m with
    | zero => intro k hk; exact absurd hk (Nat.not_lt_zero k)
    | succ m ih =>
      intro k hk
      show (((l[m]?).bind (·.dst), Rs m) :: envOf l Rs m).reverse[k]? = _
      rw [List.reverse_cons]
      by_cases e : k = m
      · subst e
        rw [List.getElem?_append_right (by simp [hlen])]
        simp [hlen]
      · rw [List.getElem?_append_left (by simp [hlen]; omega)]
        exact ih k (by omega)
  intro d
  induction d with
  | zero =>
    intro k b hk h1 h2 h3 h
    rw [List.drop_eq_nil_of_le (by simp [hlen]; omega)] at h
    have e : a = b := act_ext h2.symm fun t => (h3 t fun j p h4 h5 => absurd h5 (by omega)).symm
    rw [e]; exact h
  | succ d ih =>
    intro k b hk h1 h2 h3 h
    obtain ⟨o, ho⟩ : ∃ o, l[k]? = some o := ⟨l[k], List.getElem?_eq_getElem (by omega)⟩
    obtain ⟨s, hs⟩ := (hok k o (by omega) ho).dst1
    obtain ⟨v, hva, hvr⟩ := hv k o s (by omega) ho hs
    have hdrop : (envOf l Rs n).reverse.drop k = (some s, Rs k) :: (envOf l Rs n).reverse.drop (k + 1) := by
      have hlt : k < (envOf l Rs n).reverse.length := by simp [hlen]; omega
      rw [List.drop_eq_getElem_cons hlt]
      congr 1
      have h4 := hget n k (by omega)
      rw [List.getElem?_eq_getElem hlt, ho] at h4
      have h5 := Option.some.inj h4
      rw [h5]; simp [hs]
    rw [hdrop] at h
    refine ih (k + 1) (b.put (some s) v) (by omega) (by rw [put_size, h1]) (by rw [put_defers, h2]) (fun t ht => ?_) (h v hvr)
    rw [put_tmps]
    by_cases e : s = t
    · subst e
      have hlt : s < a.tmps.size := (Array.getElem?_eq_some_iff.1 hva).1
      rw [if_pos rfl, if_pos (by rw [h1]; exact hlt), hva]
    · rw [if_neg (fun h => e (Option.some.inj h))]
      refine h3 t fun j p h4 h5 hp hd => ?_
      by_cases ejk : j = k
      · subst ejk
        have e2 : o = p := Option.some.inj (ho.symm.trans hp)
        subst e2
        rw [hs] at hd
        exact e (Option.some.inj hd)
      · exact ht j p (by omega) h5 hp hd

structure SeqS (B : Nat) (w0 ws : World) (L : List (Nat × Array Value × TypeId)) (l : List Oper) (k : Nat) (Rs : Nat → Prd) (a0 : Act) (a : Act) (w : World) : Prop where
  size : a.tmps.size = a0.tmps.size
  defers : a.defers = a0.defers
  keep : ∀ t, (∀ i o, i < k → l[i]? = some o → o.dst ≠ some t) → a.tmps[t]? = a0.tmps[t]?
  val : ∀ i o t, i < k → l[i]? = some o → o.dst = some t → ∃ v, a.tmps[t]? = some v ∧ Rs i w v
  rws : Rws B w0 w L
  bel : Below ws.heap.size ws w

theorem SeqS.next {Rs : Nat → Prd} {a0 a : Act} {w w' : World} {k : Nat} (h : SeqS B w0 ws L l k Rs a0 a w) {o : Oper} (hk : k < n) (ho : l[k]? = some o)
    (hok : OkQ l n k o) (hst : ∀ i o, i < n → l[i]? = some o → Stb (Rs i)) (hsz : ∀ t, o.dst = some t → t < a0.tmps.size) {v : Value} (hv : Rs k w' v) (hb : Below w.heap.size w w') : SeqS B w0 ws L l (k + 1) Rs a0 (a.put o.dst v) w' := by
  refine ⟨by rw [put_size, h.size], by rw [put_defers, h.defers], fun t ht => ?_, fun j p t hj hp hd => ?_, h.rws.call hb, h.bel.trans (hb.mono h.bel.size)⟩
  · rw [put_tmps, if_neg (ht k o (by omega) ho)]
    exact h.keep t fun i p hi hp => ht i p (by omega) hp
  · by_cases e : j = k
    · subst e
      have e2 : o = p := Option.some.inj (ho.symm.trans hp)
      subst e2
      exact ⟨v, by rw [put_tmps, if_pos hd, if_pos (by rw [h.size]; exact hsz t hd)], hv⟩
    · obtain ⟨u, hu, hr⟩ := h.val j p t (by omega) hp hd
      exact ⟨u, by rw [put_tmps, if_neg (fun hd' => hok.dst j p (by omega) hp e (by rw [hd', hd]))]; exact hu, hst j p (by omega) hp _ _ _ hb hr⟩

theorem soft_seq {ops : Array Oper} {Q : Exit → Act → World → Prop} {Rs : Nat → Prd} {a0 : Act} (hn : n ≤ l.length)
    (hok : ∀ i o, i < n → l[i]? = some o → OkQ l n i o) (hT : ∀ i o t, i < n → l[i]? = some o → o.dst = some t → t < a0.tmps.size)
    (hs : ∀ i o, i < n → l[i]? = some o → Stb (Rs i) ∧ SoftOp P B w0 ws L a0 (envOf l Rs i) o (Rs i))
    (hE : ∀ w, Rws B w0 w L → Below ws.heap.size ws w → softEnd (fun a w => wpList P ops Q (l.drop n) a w) w (envOf l Rs n).reverse a0) :
    ∀ (d k : Nat) (a : Act) (w : World), k + d = n → SeqS B w0 ws L l k Rs a0 a w → wpList P ops Q (l.drop k) a w := by
  intro d
  induction d with
  | zero =>
    intro k a w hk sim
    obtain rfl : k = n := by omega
    exact softEnd_useQ (K := fun a w => wpList P ops Q (l.drop k) a w) hn hok (fun i o t hi ho hd => sim.val i o t hi ho hd) k 0 a0 (by omega) sim.size.symm sim.defers.symm
        (fun t ht => (sim.keep t fun i o hi ho => ht i o (Nat.zero_le _) hi ho).symm) (by simpa using hE w sim.rws sim.bel)
  | succ d ih =>
    intro k a w hk sim
    obtain ⟨o, ho⟩ : ∃ o, l[k]? = some o := ⟨l[k], List.getElem?_eq_getElem (by omega)⟩
    have hkn : k < n := by omega
    have hdrop : l.drop k = o :: l.drop (k + 1) := by
      have hlt : k < l.length := by omega
      rw [List.drop_eq_getElem_cons hlt]
      rw [List.getElem?_eq_getElem hlt] at ho
      rw [Option.some.inj ho]
    rw [hdrop]
    have hoki := hok k o hkn ho
    refine wpList_plain hoki.guard fun K hKK => ?_
    obtain ⟨hst, hop⟩ := hs k o hkn ho
    have hat : ∀ x, x ∈ o.op.operands → AtE a0 (envOf l Rs k) w x (a.eval x) := by
      intro x hx
      cases x with
      | tmp t =>
        show (match look (envOf l Rs k) t with
          | some R => R w (a.eval (.tmp t))
          | none => a.eval (.tmp t) = a0.tmps.getD t undef)
        by_cases hd : ∃ j p, j < n ∧ l[j]? = some p ∧ p.dst = some t
        · obtain ⟨j, p, hj, hp, hd⟩ := hd
          have hji := hoki.use j p t hj hp hx hd
          rw [(look_envQ (Rs := Rs) hok hn k (by omega)).2 j p t hji hp hd]
          obtain ⟨v, hva, hvr⟩ := sim.val j p t hji hp hd
          show Rs j w (a.tmps.getD t undef)
          rw [Array.getD_eq_getD_getElem?, hva]
          exact hvr
        · have hno : ∀ j p, j < n → l[j]? = some p → p.dst ≠ some t := fun j p hj hp hd' => hd ⟨j, p, hj, hp, hd'⟩
          rw [(look_envQ (Rs := Rs) hok hn k (by omega)).1 t fun j p hj hp => hno j p (by omega) hp]
          show a.tmps.getD t undef = _
          rw [Array.getD_eq_getD_getElem?, Array.getD_eq_getD_getElem?, sim.keep t fun j p hj hp => hno j p (by omega) hp]
      | const v => rfl
      | global g => rfl
      | func f => rfl
    have hsoft := hop w a.eval sim.rws sim.bel hat
    have hstall : ∀ i o, i < n → l[i]? = some o → Stb (Rs i) := fun i o hi ho => (hs i o hi ho).1
    unfold Oper.wp
    generalize (execOp a.eval o).run P w = r at hsoft
    cases r with
    | halt x w' => exact absurd hsoft id
    | ok nx w' =>
      cases nx with
      | value u =>
        obtain ⟨e1, e2⟩ := hsoft
        exact hKK _ _ (ih _ _ _ (by omega) (sim.next hkn ho hoki hstall (fun t ht => hT k o t hkn ho ht) e1 e2))
      | enter fid args =>
        obtain ⟨e1, hcall⟩ := hsoft
        subst e1
        refine hcall.mono fun e w'' ⟨v, he, hr, hb⟩ => ?_
        subst he
        exact hKK _ _ (ih _ _ _ (by omega) (sim.next hkn ho hoki hstall (fun t ht => hT k o t hkn ho ht) hr hb))
      | _ => exact absurd hsoft id

/-- Operations in their order, by what lasts. -/
theorem wp_region_seq {id : Nat} {Q : Exit → Act → World → Prop} {a : Act} {w : World} (n : Nat) (hB : sideQ n l = true) (hT : ((l.take n).all fun o => match o.dst with | some t => decide (t < a.tmps.size) | none => true) = true) (hR : Rws B w0 w L)
    (h : softW P B w0 w L a (fun a w => wpList P l.toArray Q (l.drop n) a w) n l []) : (Code.region id l.toArray false).wp P Q a w := by
  unfold sideQ at hB
  simp only [Bool.and_eq_true, decide_eq_true_eq] at hB
  obtain ⟨hn, hokB⟩ := hB
  have hok : ∀ i o, i < n → l[i]? = some o → OkQ l n i o := fun i o hi ho => okQ_spec ho (List.all_eq_true.1 hokB i (List.mem_range.2 hi))
  obtain ⟨Rs, _, hs, hE⟩ := softW_spec l n 0 l (fun _ _ _ => True) hn (fun j => by rw [Nat.zero_add]) h
  have hTn : ∀ i o t, i < n → l[i]? = some o → o.dst = some t → t < a.tmps.size := fun i o t hi ho hd => by
    have h1 := List.all_eq_true.1 hT o (List.mem_iff_getElem?.2 ⟨i, by rw [List.getElem?_take, if_pos hi]; exact ho⟩)
    rw [hd] at h1
    simpa using h1
  refine wp_region_lit ?_
  have := soft_seq (ops := l.toArray) (Q := Q) hn hok hTn (fun i o hi ho => hs i o (Nat.zero_le _) (by omega) ho) (by rw [Nat.zero_add] at hE; exact hE) n 0 a w (by omega)
    ⟨rfl, rfl, fun _ _ => rfl, fun i _ _ hi => absurd hi (Nat.not_lt_zero i), hR, Below.refl _ _⟩
  simpa using this
end
end Go.Proofs.YtebhiplcoioenaaGreatDoor
/- Soft regions with guarded operations: where it is known ahead which of them are done, one walk in the order of the text serves every order. -/
namespace Go.Proofs.YtebhiplcoioenaaGreatDoor
open Go.RowKit
section
variable {P : Program} {B : Nat} {w0 ws : World} {L : List (Nat × Array Value × TypeId)} {l : List Oper} {n : Nat}

/-- What is known of the guard of an operation: the slot that it looks at, and what stands there. -/
def GuardIs (full : List Oper) (ws : World) (a0 : Act) (Γ : Env) (o : Oper) (is : Bool → Bool → Prop) : Prop :=
  match o.guard with
  | none => False
  | some (g, want) => ∃ tg b, (full[g]?).bind (·.dst) = some tg ∧ is b want ∧ ∀ w v, Below ws.heap.size ws w → AtE a0 Γ w (.tmp tg) v → v = .bool b
/-- It is done. -/
def Live (full : List Oper) (ws : World) (a0 : Act) (Γ : Env) (o : Oper) : Prop := o.dst.isSome = true ∧ (o.guard = none ∨ GuardIs full ws a0 Γ o fun b want => b = want)
/-- It is passed over. -/
def Dead (full : List Oper) (ws : World) (a0 : Act) (Γ : Env) (o : Oper) : Prop := GuardIs full ws a0 Γ o fun b want => (b == want) = false
/-- It changes nothing, and answers nothing (a store of what stands there). -/
def Still (P : Program) (B : Nat) (w0 ws : World) (L : List (Nat × Array Value × TypeId)) (a0 : Act) (Γ : Env) (o : Oper) : Prop := o.guard = none ∧ o.dst = none ∧
  ∀ (w : World) (e : Operand → Value), Rws B w0 w L → Below ws.heap.size ws w → (∀ x, x ∈ o.op.operands → AtE a0 Γ w x (e x)) → (execOp e o).run P w = .ok .skip w
def SoftOpG (P : Program) (B : Nat) (w0 ws : World) (L : List (Nat × Array Value × TypeId)) (full : List Oper) (a0 : Act) (Γ : Env) (o : Oper) (R : Prd) : Prop :=
  (Live full ws a0 Γ o ∧ SoftOp P B w0 ws L a0 Γ o R) ∨ (Dead full ws a0 Γ o ∧ ∀ w, R w undef) ∨ (Still P B w0 ws L a0 Γ o ∧ ∀ w, R w undef)
def softG (P : Program) (B : Nat) (w0 ws : World) (L : List (Nat × Array Value × TypeId)) (full : List Oper) (a0 : Act) (K : Act → World → Prop) : Nat → List Oper → Env → Prop
  | 0, _, Γ => ∀ w, Rws B w0 w L → Below ws.heap.size ws w → softEnd K w Γ.reverse a0
  | _ + 1, [], Γ => ∀ w, Rws B w0 w L → Below ws.heap.size ws w → softEnd K w Γ.reverse a0
  | n + 1, o :: l, Γ => ∃ R, Stb R ∧ SoftOpG P B w0 ws L full a0 Γ o R ∧ softG P B w0 ws L full a0 K n l ((o.dst, R) :: Γ)

def okG (l : List Oper) (n i : Nat) : Bool :=
  match l[i]? with
  | none => false
  | some o => (match o.guard with | none => true | some (g, _) => decide (g < i) && Region.waitsFor .any l.toArray i g) && o.after.all (fun e => !Region.binds .any e || decide (e.on < i)) &&
    (List.range n).all fun j => match l[j]? with
      | none => false
      | some p => (i == j || o.dst.isNone || o.dst != p.dst) &&
        o.op.operands.all fun x => match x with
          | .tmp t => p.dst != some t || (decide (j < i) && Region.waitsFor .any l.toArray i j)
          | _ => true
def sideG (n : Nat) (l : List Oper) : Bool :=
  decide (n < l.length) && Region.sinkB .any l.toArray n && Region.chainB .any l.toArray n && (List.range n).all (okG l n) &&
    Region.seqB .any l.toArray (l.length - n) n ((List.replicate n true ++ List.replicate (l.length - n) false).toArray)

structure OkG (l : List Oper) (n i : Nat) (o : Oper) : Prop where
  guard : ∀ g want, o.guard = some (g, want) → g < i ∧ Region.waitsFor .any l.toArray i g = true
  back : ∀ e, e ∈ o.after → Region.binds .any e = true → e.on < i
  dst : ∀ j p t, j < n → l[j]? = some p → j ≠ i → o.dst = some t → p.dst ≠ some t
  use : ∀ j p t, j < n → l[j]? = some p → Operand.tmp t ∈ o.op.operands → p.dst = some t → j < i ∧ Region.waitsFor .any l.toArray i j = true

theorem okG_spec {i : Nat} {o : Oper} (hi : l[i]? = some o) (h : okG l n i = true) : OkG l n i o := by
  unfold okG at h
  rw [hi] at h
  simp only [Bool.and_eq_true] at h
  obtain ⟨⟨hg, ha⟩, hr⟩ := h
  have key : ∀ j p, j < n → l[j]? = some p → (i == j || o.dst.isNone || o.dst != p.dst) = true ∧ (o.op.operands.all fun x => match x with
          | .tmp t => p.dst != some t || (decide (j < i) && Region.waitsFor .any l.toArray i j)
          | _ => true) = true := by
    intro j p hj hp
    have h1 := List.all_eq_true.1 hr j (List.mem_range.2 hj)
    rw [hp] at h1
    simpa only [Bool.and_eq_true] using h1
  refine ⟨fun g want hgw => by rw [hgw] at hg; simpa using hg, ?_, ?_, ?_⟩
  · intro e he hb
    have h1 := Array.all_eq_true_iff_forall_mem.1 ha e he
    rw [hb] at h1
    simpa using h1
  · intro j p t hj hp hji hd hd2
    have h1 := (key j p hj hp).1
    rw [hd, hd2] at h1
    simp only [bne_self_eq_false, Bool.or_false, Option.isNone_some, beq_iff_eq] at h1
    exact hji h1.symm
  · intro j p t hj hp hx ht
    have h1 := Array.all_eq_true_iff_forall_mem.1 (key j p hj hp).2 _ hx
    simp only [ht, bne_self_eq_false, Bool.false_or, Bool.and_eq_true, decide_eq_true_eq] at h1
    exact h1

theorem look_envG {Rs : Nat → Prd} (hok : ∀ i o, i < n → l[i]? = some o → OkG l n i o) (hn : n ≤ l.length) : ∀ k, k ≤ n →
    (∀ t, (∀ j p, j < k → l[j]? = some p → p.dst ≠ some t) → look (envOf l Rs k) t = none) ∧ ∀ j p t, j < k → l[j]? = some p → p.dst = some t → look (envOf l Rs k) t = some (Rs j)
  | 0, _ => ⟨fun _ _ => rfl, fun j _ _ hj => absurd hj (Nat.not_lt_zero j)⟩
  | k + 1, hk => by
    obtain ⟨h1, h2⟩ := look_envG (Rs := Rs) hok hn k (by omega)
    obtain ⟨o, ho⟩ : ∃ o, l[k]? = some o := ⟨l[k], List.getElem?_eq_getElem (by omega)⟩
    cases hs : o.dst with
    | none =>
      have he : envOf l Rs (k + 1) = (none, Rs k) :: envOf l Rs k := by
        show ((l[k]?).bind (·.dst), Rs k) :: envOf l Rs k = _
        rw [ho]; simp [hs]
      rw [he]
      refine ⟨fun t ht => h1 t fun j p hj hp => ht j p (by omega) hp, fun j p t hj hp hd => ?_⟩
      by_cases e : j = k
      · subst e
        have e2 : o = p := Option.some.inj (ho.symm.trans hp)
        subst e2
        rw [hs] at hd; cases hd
      · exact h2 j p t (by omega) hp hd
    | some s =>
    have he : envOf l Rs (k + 1) = (some s, Rs k) :: envOf l Rs k := by
      show ((l[k]?).bind (·.dst), Rs k) :: envOf l Rs k = _
      rw [ho]; simp [hs]
    rw [he]
    have hb : ∀ t, look ((some s, Rs k) :: envOf l Rs k) t = bif Nat.beq s t then some (Rs k) else look (envOf l Rs k) t := fun _ => rfl
    refine ⟨fun t ht => ?_, fun j p t hj hp hd => ?_⟩
    · have hne : s ≠ t := fun e => ht k o (by omega) ho (by rw [hs, e])
      rw [hb, show Nat.beq s t = false from nbeq hne]
      exact h1 t fun j p hj hp => ht j p (by omega) hp
    · by_cases e : j = k
      · subst e
        have e2 : o = p := Option.some.inj (ho.symm.trans hp)
        subst e2
        rw [hs] at hd
        have e3 : s = t := Option.some.inj hd
        subst e3
        rw [hb, Nat.beq_refl]; rfl
      · have hne : s ≠ t := fun e2 => (hok k o (by omega) ho).dst j p t (by omega) hp e (by rw [hs, e2]) hd
        rw [hb, show Nat.beq s t = false from nbeq hne]
        exact h2 j p t (by omega) hp hd

theorem softG_spec {a0 : Act} {K : Act → World → Prop} (full : List Oper) : ∀ (n k : Nat) (l : List Oper) (Rs0 : Nat → Prd), n ≤ l.length → (∀ j, l[j]? = full[k + j]?) → softG P B w0 ws L full a0 K n l (envOf full Rs0 k) →
    ∃ Rs : Nat → Prd, (∀ j, j < k → Rs j = Rs0 j) ∧ (∀ i o, k ≤ i → i < k + n → full[i]? = some o → Stb (Rs i) ∧ SoftOpG P B w0 ws L full a0 (envOf full Rs i) o (Rs i)) ∧ ∀ w, Rws B w0 w L → Below ws.heap.size ws w → softEnd K w (envOf full Rs (k + n)).reverse a0
  | 0, k, _, Rs0, _, _, h => ⟨Rs0, fun _ _ => rfl, fun i _ h1 h2 => absurd h2 (by omega), h⟩
  | _ + 1, _, [], _, hn, _, _ => absurd hn (Nat.not_succ_le_zero _)
  | n + 1, k, o :: l, Rs0, hn, hl, h => by
    obtain ⟨R, hst, hop, h⟩ := h
    have ho : full[k]? = some o := by simpa using (hl 0).symm
    have henv : ∀ (R1 R2 : Nat → Prd) m, (∀ j, j < m → R1 j = R2 j) → envOf full R1 m = envOf full R2 m := by
      intro R1 R2 m hm
      induction m with
      | zero => rfl
      | succ m ih =>
        show _ :: _ = _ :: _
        rw [ih (fun j hj => hm j (by omega)), hm m (by omega)]
    have e1 : envOf full (fun j => if j = k then R else Rs0 j) k = envOf full Rs0 k := henv _ _ k fun j hj => if_neg (by omega)
    have e2 : envOf full (fun j => if j = k then R else Rs0 j) (k + 1) = (o.dst, R) :: envOf full Rs0 k := by
      show ((full[k]?).bind (·.dst), (if k = k then R else Rs0 k)) :: envOf full _ k = _
      rw [ho, e1, if_pos rfl]; rfl
    rw [← e2] at h
    obtain ⟨Rs, hs1, hs2, hs3⟩ := softG_spec full n (k + 1) l _ (Nat.le_of_succ_le_succ hn) (fun j => by have := hl (j + 1); rw [List.getElem?_cons_succ] at this; rw [this]; congr 1; omega) h
    refine ⟨Rs, fun j hj => by rw [hs1 j (by omega), if_neg (by omega)], fun i p h1 h2 hp => ?_, by rw [show k + (n + 1) = k + 1 + n by omega]; exact hs3⟩
    by_cases e : i = k
    · subst e
      have e3 : o = p := Option.some.inj (ho.symm.trans hp)
      subst e3
      have e4 : Rs i = R := by rw [hs1 i (by omega), if_pos rfl]
      have e5 : envOf full Rs i = envOf full Rs0 i := henv _ _ i fun j hj => by rw [hs1 j (by omega), if_neg (by omega)]
      rw [e4, e5]
      exact ⟨hst, hop⟩
    · exact hs2 i p (by omega) (by omega) hp

structure SimG (B : Nat) (w0 ws : World) (L : List (Nat × Array Value × TypeId)) (l : List Oper) (n : Nat) (Rs : Nat → Prd) (a0 : Act) (listed : Array Bool) (a : Act) (w : World) : Prop where
  size : a.tmps.size = a0.tmps.size
  defers : a.defers = a0.defers
  keep : ∀ t, (∀ i o, i < n → l[i]? = some o → o.dst ≠ some t) → a.tmps[t]? = a0.tmps[t]?
  val : ∀ i o t, i < n → l[i]? = some o → listed.getD i false = true → o.dst = some t → ∃ v, a.tmps[t]? = some v ∧ Rs i w v
  rws : Rws B w0 w L
  bel : Below ws.heap.size ws w

theorem SimG.next {Rs : Nat → Prd} {a0 : Act} {listed : Array Bool} {a : Act} {w w' : World} (h : SimG B w0 ws L l n Rs a0 listed a w) {i : Nat} {o : Oper} (hi : i < n) (ho : l[i]? = some o)
    (hok : OkG l n i o) (hst : ∀ i o, i < n → l[i]? = some o → Stb (Rs i)) (hsz : ∀ t, o.dst = some t → t < a0.tmps.size) {v : Value} (hv : Rs i w' v) (hb : Below w.heap.size w w') : SimG B w0 ws L l n Rs a0 (listed.setIfInBounds i true) (a.put o.dst v) w' := by
  refine ⟨by rw [put_size, h.size], by rw [put_defers, h.defers], fun t ht => ?_, fun j p t hj hp hl hd => ?_, h.rws.call hb, h.bel.trans (hb.mono h.bel.size)⟩
  · rw [put_tmps, if_neg (ht i o hi ho)]
    exact h.keep t ht
  · by_cases e : j = i
    · subst e
      have e2 : o = p := Option.some.inj (ho.symm.trans hp)
      subst e2
      exact ⟨v, by rw [put_tmps, if_pos hd, if_pos (by rw [h.size]; exact hsz t hd)], hv⟩
    · obtain ⟨u, hu, hr⟩ := h.val j p t hj hp (by rwa [getD_set_ne false (fun e' => e e'.symm)] at hl) hd
      exact ⟨u, by rw [put_tmps, if_neg (fun hd' => hok.dst j p t hj hp e hd' hd)]; exact hu, hst j p hj hp _ _ _ hb hr⟩

theorem readyG_some {listed : Array Bool} (hn : n ≤ l.length) (hsz : listed.size = l.length) (hok : ∀ i o, i < n → l[i]? = some o → OkG l n i o) (i : Nat) : i < n → listed.getD i true = false → Region.ready .any l.toArray listed ≠ [] := by
  induction i using Nat.strongRecOn with
  | ind i ih =>
    intro hi hun
    obtain ⟨o, ho⟩ : ∃ o, l[i]? = some o := ⟨l[i], List.getElem?_eq_getElem (by omega)⟩
    by_cases hall : ∀ e, e ∈ o.after → Region.binds .any e = true → listed.getD e.on false = true
    · intro h0
      have : i ∈ Region.ready .any l.toArray listed := mem_ready.2 ⟨hun, o, by simpa using ho, hall⟩
      rw [h0] at this
      cases this
    · have hex : ∃ e, e ∈ o.after ∧ Region.binds .any e = true ∧ listed.getD e.on false = false := by
        refine Classical.byContradiction fun hno => hall fun e he hb => ?_
        cases hl : listed.getD e.on false with
        | true => rfl
        | false => exact absurd ⟨e, he, hb, hl⟩ hno
      obtain ⟨e, he, hb, hl⟩ := hex
      have hlt := (hok i o hi ho).back e he hb
      exact ih e.on hlt (by omega) (getD_in (by omega) hl)

/-- All that the predicates tell at the end is what stands there. -/
theorem softEnd_useG {Rs : Nat → Prd} {K : Act → World → Prop} {a : Act} {w : World} (hn : n ≤ l.length) (_hok : ∀ i o, i < n → l[i]? = some o → OkG l n i o)
    (hv : ∀ i o t, i < n → l[i]? = some o → o.dst = some t → ∃ v, a.tmps[t]? = some v ∧ Rs i w v) (hun : ∀ i o, i < n → l[i]? = some o → o.dst = none → Rs i w undef) :
    ∀ (d k : Nat) (b : Act), k + d = n → b.tmps.size = a.tmps.size → b.defers = a.defers → (∀ t, (∀ j p, k ≤ j → j < n → l[j]? = some p → p.dst ≠ some t) → b.tmps[t]? = a.tmps[t]?) →
      softEnd K w ((envOf l Rs n).reverse.drop k) b → K a w := by
  have hlen : ∀ m, (envOf l Rs m).length = m := by
    intro m; induction m with
    | zero => rfl
    | succ m ih => show (envOf l Rs m).length + 1 = _; rw [ih]
  have hget : ∀ m k, k < m → (envOf l Rs m).reverse[k]? = some ((l[k]?).bind (·.dst), Rs k) := by
    intro m
    induction m with
    | zero => intro k hk; exact absurd hk (Nat.not_lt_zero k)
    | succ m ih =>
      intro k hk
      show (((l[m]?).bind (·.dst), Rs m) :: envOf l Rs m).reverse[k]? = _
      rw [List.reverse_cons]
      by_cases e : k = m
      · subst e
        rw [List.getElem?_append_right (by simp [hlen])]
        simp [hlen]
      · rw [List.getElem?_append_left (by simp [hlen]; omega)]
        exact ih k (by omega)
  intro d
  induction d with
  | zero =>
    intro k b hk h1 h2 h3 h
    rw [List.drop_eq_nil_of_le (by simp [hlen]; omega)] at h
    have e : a = b := act_ext h2.symm fun t => (h3 t fun j p h4 h5 => absurd h5 (by omega)).symm
    rw [e]; exact h
  | succ d ih =>
    intro k b hk h1 h2 h3 h
    obtain ⟨o, ho⟩ : ∃ o, l[k]? = some o := ⟨l[k], List.getElem?_eq_getElem (by omega)⟩
    cases hs : o.dst with
    | none =>
      have hdrop : (envOf l Rs n).reverse.drop k = (none, Rs k) :: (envOf l Rs n).reverse.drop (k + 1) := by
        have hlt : k < (envOf l Rs n).reverse.length := by simp [hlen]; omega
        rw [List.drop_eq_getElem_cons hlt]
        congr 1
        have h4 := hget n k (by omega)
        rw [List.getElem?_eq_getElem hlt, ho] at h4
        have h5 := Option.some.inj h4
        rw [h5]; simp [hs]
      rw [hdrop] at h
      have h6 := h undef (hun k o (by omega) ho hs)
      refine ih (k + 1) (b.put none undef) (by omega) h1 h2 (fun t ht => h3 t fun j p h4 h5 hp hd => ?_) h6
      by_cases ejk : j = k
      · subst ejk
        have e2 : o = p := Option.some.inj (ho.symm.trans hp)
        subst e2
        rw [hs] at hd; cases hd
      · exact ht j p (by omega) h5 hp hd
    | some s =>
    obtain ⟨v, hva, hvr⟩ := hv k o s (by omega) ho hs
    have hdrop : (envOf l Rs n).reverse.drop k = (some s, Rs k) :: (envOf l Rs n).reverse.drop (k + 1) := by
      have hlt : k < (envOf l Rs n).reverse.length := by simp [hlen]; omega
      rw [List.drop_eq_getElem_cons hlt]
      congr 1
      have h4 := hget n k (by omega)
      rw [List.getElem?_eq_getElem hlt, ho] at h4
      have h5 := Option.some.inj h4
      rw [h5]; simp [hs]
    rw [hdrop] at h
    refine ih (k + 1) (b.put (some s) v) (by omega) (by rw [put_size, h1]) (by rw [put_defers, h2]) (fun t ht => ?_) (h v hvr)
    rw [put_tmps]
    by_cases e : s = t
    · subst e
      have hlt : s < a.tmps.size := (Array.getElem?_eq_some_iff.1 hva).1
      rw [if_pos rfl, if_pos (by rw [h1]; exact hlt), hva]
    · rw [if_neg (fun h => e (Option.some.inj h))]
      refine h3 t fun j p h4 h5 hp hd => ?_
      by_cases ejk : j = k
      · subst ejk
        have e2 : o = p := Option.some.inj (ho.symm.trans hp)
        subst e2
        rw [hs] at hd
        exact e (Option.some.inj hd)
      · exact ht j p (by omega) h5 hp hd

theorem softG_any {Q : Exit → Act → World → Prop} {Rs : Nat → Prd} {a0 : Act} (hn : n < l.length) (hsink : Region.sinkB .any l.toArray n = true) (hchain : Region.chainB .any l.toArray n = true)
    (hseq : Region.seqB .any l.toArray (l.length - n) n ((List.replicate n true ++ List.replicate (l.length - n) false).toArray) = true)
    (hok : ∀ i o, i < n → l[i]? = some o → OkG l n i o) (hT : ∀ i o t, i < n → l[i]? = some o → o.dst = some t → t < a0.tmps.size)
    (hs : ∀ i o, i < n → l[i]? = some o → Stb (Rs i) ∧ SoftOpG P B w0 ws L l a0 (envOf l Rs i) o (Rs i))
    (hE : ∀ w, Rws B w0 w L → Below ws.heap.size ws w → softEnd (fun a w => wpList P l.toArray Q (l.drop n) a w) w (envOf l Rs n).reverse a0) :
    ∀ (f : Nat) (listed : Array Bool) (a : Act) (w : World), HeadInv .any l.toArray n listed → SimG B w0 ws L l n Rs a0 listed a w → cntB (fun i => !listed.getD i true) n = f →
      wpAny P .any l.toArray Q (f + (l.length - n)) listed a w := by
  intro f
  induction f with
  | zero =>
    intro listed a w inv sim hc
    have hall : ∀ i, i < n → listed.getD i true = true := fun i hi => by
      have := cntB_zero n hc i hi
      simpa using this
    have hall' : ∀ i, i < n → listed.getD i false = true := fun i hi => by
      have h1 := hall i hi
      have hlt : i < listed.size := by rw [inv.size]; simp; omega
      simp [hlt] at h1 ⊢; exact h1
    have hl : listed = (List.replicate n true ++ List.replicate (l.length - n) false).toArray := by
      have hsz := inv.size
      simp only [List.size_toArray] at hsz
      apply Array.ext
      · simp; omega
      · intro i h1 h2
        simp only [List.getElem_toArray]
        by_cases hi : i < n
        · have h3 := hall i hi
          simp only [Array.getD_eq_getD_getElem?, Array.getElem?_eq_getElem h1, Option.getD_some] at h3
          rw [h3, List.getElem_append_left (by simpa using hi)]
          simp
        · have h3 := inv.tail i (by omega) (by simp; omega)
          simp only [Array.getD_eq_getD_getElem?, Array.getElem?_eq_getElem h1, Option.getD_some] at h3
          rw [h3, List.getElem_append_right (by simpa using hi)]
          simp
    have H : wpList P l.toArray Q (l.drop n) a w :=
      softEnd_useG (K := fun a w => wpList P l.toArray Q (l.drop n) a w) (Nat.le_of_lt hn) hok (fun i o t hi ho hd => sim.val i o t hi ho (hall' i hi) hd) (fun i o hi ho hd => by
        rcases (hs i o hi ho).2 with ⟨h1, _⟩ | ⟨_, h1⟩ | ⟨_, h1⟩
        · have := h1.1; rw [hd] at this; cases this
        · exact h1 w
        · exact h1 w) n 0 a0 (by omega) sim.size.symm sim.defers.symm
        (fun t ht => (sim.keep t fun i o hi ho => ht i o (Nat.zero_le _) hi ho).symm) (by simpa using hE w sim.rws sim.bel)
    have := wpAny_of_seq (md := .any) (Q' := Q) (ops := l.toArray) (l.drop n) n listed a w (fun j => by simp [List.getElem?_drop]) (by rw [hl]; simpa using hseq) H
    simpa using this
  | succ f ih =>
    intro listed a w inv sim hc
    have hsz : listed.size = l.length := by simpa using inv.size
    rw [show f + 1 + (l.length - n) = (f + (l.length - n)) + 1 by omega]
    obtain ⟨i0, hi0, hun0⟩ := cntB_all n (by rw [hc]; omega)
    have hun0 : listed.getD i0 true = false := by simpa using hun0
    refine ⟨fun h0 => absurd h0 (readyG_some (Nat.le_of_lt hn) hsz hok i0 hi0 hun0), fun i hi => ?_⟩
    obtain ⟨hun, o, ho, hall⟩ := mem_ready.1 hi
    have ho' : l[i]? = some o := by simpa using ho
    have hin : i < n := by
      rcases Nat.lt_or_ge i n with h | h
      · exact h
      · exact absurd hi (tail_waits hsink hchain (by simpa using hn) inv (n - i0) i0 rfl hi0 hun0 i h)
    have hoki := hok i o hin ho'
    have hcnt : cntB (fun j => !(listed.setIfInBounds i true).getD j true) n = f := by
      have hlt : i < listed.size := by rw [hsz]; omega
      have := cntB_set (p := fun j => !listed.getD j true) (q := fun j => !(listed.setIfInBounds i true).getD j true) (i := i) (by simp only [hun]; rfl) (by simp [hlt]) (fun j hj => by simp only [getD_set_ne true (fun e => hj e.symm)]) n hin
      omega
    have inv' := inv.set hi hin
    obtain ⟨hst, hop⟩ := hs i o hin ho'
    have hat : ∀ x, x ∈ o.op.operands → AtE a0 (envOf l Rs i) w x (a.eval x) := by
      intro x hx
      cases x with
      | tmp t =>
        show (match look (envOf l Rs i) t with
          | some R => R w (a.eval (.tmp t))
          | none => a.eval (.tmp t) = a0.tmps.getD t undef)
        by_cases hd : ∃ j p, j < n ∧ l[j]? = some p ∧ p.dst = some t
        · obtain ⟨j, p, hj, hp, hd⟩ := hd
          obtain ⟨hji, hwait⟩ := hoki.use j p t hj hp hx hd
          rw [(look_envG (Rs := Rs) hok (Nat.le_of_lt hn) i (Nat.le_of_lt hin)).2 j p t hji hp hd]
          obtain ⟨o2, ho2, e, he, hb, hon⟩ := Region.waitsFor_spec hwait
          have e2 : o = o2 := Option.some.inj (ho.symm.trans ho2)
          subst e2
          have hlj := hall e he hb
          rw [hon] at hlj
          obtain ⟨v, hva, hvr⟩ := sim.val j p t hj hp hlj hd
          show Rs j w (a.tmps.getD t undef)
          rw [Array.getD_eq_getD_getElem?, hva]
          exact hvr
        · have hno : ∀ j p, j < n → l[j]? = some p → p.dst ≠ some t := fun j p hj hp hd' => hd ⟨j, p, hj, hp, hd'⟩
          rw [(look_envG (Rs := Rs) hok (Nat.le_of_lt hn) i (Nat.le_of_lt hin)).1 t fun j p hj hp => hno j p (by omega) hp]
          show a.tmps.getD t undef = _
          rw [Array.getD_eq_getD_getElem?, Array.getD_eq_getD_getElem?, sim.keep t hno]
      | const v => rfl
      | global g => rfl
      | func f => rfl
    have hguard : ∀ g want, o.guard = some (g, want) → ∀ tg b, (l[g]?).bind (·.dst) = some tg → (∀ w v, Below ws.heap.size ws w → AtE a0 (envOf l Rs i) w (.tmp tg) v → v = .bool b) → yielded l.toArray a.tmps g = some b := by
      intro g want hgw tg b htg hv
      obtain ⟨hgi, hwait⟩ := hoki.guard g want hgw
      obtain ⟨p, hp⟩ : ∃ p, l[g]? = some p := ⟨l[g]'(by omega), List.getElem?_eq_getElem (by omega)⟩
      rw [hp] at htg
      have hd : p.dst = some tg := htg
      obtain ⟨o2, ho2, e, he, hb, hon⟩ := Region.waitsFor_spec hwait
      have e2 : o = o2 := Option.some.inj (ho.symm.trans ho2)
      subst e2
      have hlj := hall e he hb
      rw [hon] at hlj
      obtain ⟨u, hu, hr⟩ := sim.val g p tg (by omega) hp hlj hd
      have hat2 : AtE a0 (envOf l Rs i) w (.tmp tg) u := by
        show (match look (envOf l Rs i) tg with
          | some R => R w u
          | none => u = a0.tmps.getD tg undef)
        rw [(look_envG (Rs := Rs) hok (Nat.le_of_lt hn) i (Nat.le_of_lt hin)).2 g p tg hgi hp hd]
        exact hr
      have hub := hv w u sim.bel hat2
      unfold yielded
      rw [show l.toArray[g]? = some p by simpa using hp]
      simp only [Option.bind_some, hd, hu, hub]
    have hstall : ∀ i o, i < n → l[i]? = some o → Stb (Rs i) := fun i o hi ho => (hs i o hi ho).1
    unfold wpOp
    rw [ho]
    rcases hop with ⟨⟨_, hlive⟩, hop⟩ | ⟨hdead, hun⟩ | ⟨⟨hsg, hsd, hst2⟩, hun⟩
    · have hsoft := hop w a.eval sim.rws sim.bel hat
      have hw : Region.wanted o (yielded l.toArray a.tmps) = true := by
        unfold Region.wanted
        rcases hlive with hlive | hlive
        · rw [hlive]
        · unfold GuardIs at hlive
          cases hg : o.guard with
          | none => rfl
          | some p =>
            obtain ⟨g, want⟩ := p
            rw [hg] at hlive
            obtain ⟨tg, b, htg, rfl, hv⟩ := hlive
            show (yielded l.toArray a.tmps g == some b) = true
            rw [hguard g b hg tg b htg hv]; simp
      simp only [hw, if_true]
      refine Or.inl ?_
      unfold Oper.wp
      generalize (execOp a.eval o).run P w = r at hsoft
      cases r with
      | halt x w' => exact absurd hsoft id
      | ok nx w' =>
        cases nx with
        | value u =>
          obtain ⟨e1, e2⟩ := hsoft
          exact ih _ _ _ inv' (sim.next hin ho' hoki hstall (fun t ht => hT i o t hin ho' ht) e1 e2) hcnt
        | enter fid args =>
          obtain ⟨e1, hcall⟩ := hsoft
          subst e1
          refine hcall.mono fun e w'' ⟨v, he, hr, hb⟩ => ?_
          subst he
          exact ih _ _ _ inv' (sim.next hin ho' hoki hstall (fun t ht => hT i o t hin ho' ht) hr hb) hcnt
        | _ => exact absurd hsoft id
    · have hw : Region.wanted o (yielded l.toArray a.tmps) = false := by
        unfold Region.wanted
        unfold Dead GuardIs at hdead
        cases hg : o.guard with
        | none => rw [hg] at hdead; exact absurd hdead id
        | some p =>
          obtain ⟨g, want⟩ := p
          rw [hg] at hdead
          obtain ⟨tg, b, htg, hne, hv⟩ := hdead
          show (yielded l.toArray a.tmps g == some want) = false
          rw [hguard g want hg tg b htg hv]
          simpa using hne
      simp only [hw, Bool.false_eq_true, if_false]
      exact ih _ _ _ inv' (sim.next hin ho' hoki hstall (fun t ht => hT i o t hin ho' ht) (hun w) (Below.refl _ _)) hcnt
    · have hw : Region.wanted o (yielded l.toArray a.tmps) = true := by
        unfold Region.wanted
        rw [hsg]
      simp only [hw, if_true]
      refine Or.inl ?_
      unfold Oper.wp
      rw [hst2 w a.eval sim.rws sim.bel hat]
      have := sim.next (v := undef) hin ho' hoki hstall (fun t ht => hT i o t hin ho' ht) (hun w) (Below.refl _ _)
      exact ih _ _ _ inv' this hcnt

/-- One walk in the order of the text serves every order. -/
theorem wp_region_softG {id : Nat} {Q : Exit → Act → World → Prop} {a : Act} {w : World} (n : Nat) (hm : P.follows .mixedOrders = true) (hB : sideG n l = true) (hT : ((l.take n).all fun o => match o.dst with | some t => decide (t < a.tmps.size) | none => true) = true) (hR : Rws B w0 w L)
    (h : softG P B w0 w L l a (fun a w => wpList P l.toArray Q (l.drop n) a w) n l []) : (Code.region id l.toArray true).wp P Q a w := by
  unfold sideG at hB
  simp only [Bool.and_eq_true, decide_eq_true_eq] at hB
  obtain ⟨⟨⟨⟨hn, hsink⟩, hchain⟩, hokB⟩, hseq⟩ := hB
  have hok : ∀ i o, i < n → l[i]? = some o → OkG l n i o := fun i o hi ho => okG_spec ho (List.all_eq_true.1 hokB i (List.mem_range.2 hi))
  obtain ⟨Rs, _, hs, hE⟩ := softG_spec l n 0 l (fun _ _ _ => True) (Nat.le_of_lt hn) (fun j => by rw [Nat.zero_add]) h
  have inv0 : HeadInv .any l.toArray n (Array.replicate l.toArray.size false) :=
    ⟨by simp, fun j oj _ hl => (by rw [getD_replicate_false] at hl; cases hl), fun t _ ht => getD_in (by simpa using ht) (getD_replicate_false _ _)⟩
  have sim0 : SimG B w0 w L l n Rs a (Array.replicate l.toArray.size false) a { w with drawn := w.drawn + 1 } :=
    ⟨rfl, rfl, fun _ _ => rfl, fun i _ _ _ _ hl => (by rw [getD_replicate_false] at hl; cases hl), hR.drew, (Below.refl _ _).drew⟩
  have hcn : cntB (fun i => !(Array.replicate l.toArray.size false).getD i true) n = n := by
    have key : ∀ m, m ≤ n → cntB (fun i => !(Array.replicate l.toArray.size false).getD i true) m = m := by
      intro m
      induction m with
      | zero => intro _; rfl
      | succ m ih =>
        intro hm
        have hlt : m < l.length := by omega
        simp only [cntB]
        rw [ih (by omega)]
        simp [hlt]
    exact key n (Nat.le_refl n)
  have hTn : ∀ i o t, i < n → l[i]? = some o → o.dst = some t → t < a.tmps.size := fun i o t hi ho hd => by
    have h1 := List.all_eq_true.1 hT o (List.mem_iff_getElem?.2 ⟨i, by rw [List.getElem?_take, if_pos hi]; exact ho⟩)
    rw [hd] at h1
    simpa using h1
  have := softG_any hn hsink hchain hseq hok hTn (fun i o hi ho => hs i o (Nat.zero_le _) (by omega) ho) (by rw [Nat.zero_add] at hE; exact hE) n _ a _ inv0 sim0 hcn
  refine wp_region_any hm ?_
  rw [show n + (l.length - n) = l.toArray.size by simp; omega] at this
  exact this

end
end Go.Proofs.YtebhiplcoioenaaGreatDoor
/- Steps of soft regions with guarded operations (out of ec's texts, for the seat of Policy). -/
namespace Go.Proofs.YtebhiplcoioenaaGreatDoor
open Go.RowKit

def Is (u : Value) : Prd := fun _ v => v = u
theorem stb_is (u : Value) : Stb (Is u) := fun _ _ _ _ h => h
def Has (ws : World) (a0 : Act) (Γ : Env) (x : Operand) (R : Prd) : Prop := ∀ w v, Below ws.heap.size ws w → AtE a0 Γ w x v → R w v
section
variable {P : Program} {w : World}
theorem addr_add (b o j : Nat) : (⟨b, o, none⟩ : Addr).add j = ⟨b, o + j, none⟩ := by rw [Addr.add_lit]
/-- A struct or an array out of a variable, or out of a part of one. -/
theorem run_load_part {g k : Nat} {cs vs : Array Value} {t t2 : TypeId} {d : TypeDesc} (hg : w.heap[g]? = some (.cells cs t2 (0, 0)))
    (hu : P.underlying t = some d) (hd : (match d with | .struct _ | .array _ _ => true | _ => false) = true) (hi : (P.info? t).map (·.size) = some vs.size) (hv : ∀ j, j < vs.size → cs[k + j]? = vs[j]?) :
    (Instr.loadAt t (.pointer (some ⟨g, k, none⟩))).run P w = .ok (.agg vs) w := by
  have hl : (loadCells ⟨g, k, none⟩ vs.toList.length).run P w = .ok vs.toList.toArray w :=
    run_loadCells_list (P := P) w ⟨g, k, none⟩ vs.toList (fun j v hv' => by
      have hj : j < vs.size := by
        have := (List.getElem?_eq_some_iff.1 hv').1
        simpa using this
      rw [addr_add, cell_of_row w g (k + j) cs t2 _ hg, hv j hj]
      simpa using hv')
  have hagg : (isAgg t).run P w = .ok true w := by
    unfold isAgg
    rw [Sem.run_bind, run_underlying hu w]
    cases d <;> simp_all
  cases hq : P.info? t with
  | none => simp [hq] at hi
  | some i =>
    have hs : i.size = vs.size := by simpa [hq] using hi
    simp only [Array.length_toList, Array.toArray_toList] at hl
    simp [Instr.loadAt, Instr.sureAddr, loadVar, Sem.run_bind, hagg, sizeOf, typeInfo, hq, hs, hl]
end
def isSA : TypeDesc → Bool
  | .struct _ => true
  | .array _ _ => true
  | _ => false
section
variable {B : Nat} {w0 ws : World} {L : List (Nat × Array Value × TypeId)} {full : List Oper} {a0 : Act} {K : Act → World → Prop} {n : Nat} {l : List Oper} {o : Oper} {Γ : Env}
theorem live_of {g tg : Nat} {want : Bool} (hds : o.dst.isSome = true) (hg : o.guard = some (g, want)) (htg : (full[g]?).bind (·.dst) = some tg) (hv : ∀ w v, Below ws.heap.size ws w → AtE a0 Γ w (.tmp tg) v → v = .bool want) : Live full ws a0 Γ o := by
  refine ⟨hds, Or.inr ?_⟩
  unfold GuardIs
  rw [hg]
  exact ⟨tg, want, htg, rfl, hv⟩
theorem dead_of {g tg : Nat} {b want : Bool} (hg : o.guard = some (g, want)) (htg : (full[g]?).bind (·.dst) = some tg) (hv : ∀ w v, Below ws.heap.size ws w → AtE a0 Γ w (.tmp tg) v → v = .bool b) (hne : (b == want) = false) : Dead full ws a0 Γ o := by
  unfold Dead GuardIs
  rw [hg]
  exact ⟨tg, b, htg, hne, hv⟩
theorem g_any {R : Prd} (hst : Stb R) (hop : ∀ (w : World) (e : Operand → Value), Rws B w0 w L → Below ws.heap.size ws w → (∀ x, x ∈ o.op.operands → AtE a0 Γ w x (e x)) → softUpon Tryz.prog w R ((execOp e o).run Tryz.prog w)) (h : softG Tryz.prog B w0 ws L full a0 K n l ((o.dst, R) :: Γ))
    (hlv : Live full ws a0 Γ o := by first | exact ⟨rfl, Or.inl rfl⟩ | exact live_of rfl rfl rfl (fun _ _ _ h => h)) : softG Tryz.prog B w0 ws L full a0 K (n + 1) (o :: l) Γ := ⟨R, hst, Or.inl ⟨hlv, hop⟩, h⟩
/-- It is passed over. -/
theorem g_dead (hd : Dead full ws a0 Γ o) (h : softG Tryz.prog B w0 ws L full a0 K n l ((o.dst, Is undef) :: Γ)) : softG Tryz.prog B w0 ws L full a0 K (n + 1) (o :: l) Γ := ⟨Is undef, stb_is _, Or.inr (Or.inl ⟨hd, fun _ => rfl⟩), h⟩
/-- A whole struct of one's own is stored as it stands there. -/
theorem g_same {t t2 : TypeId} {x y : Operand} {g : Nat} {cs : Array Value} (ho : o.op = .store t x y) (hd : o.dst = none) (hgd : o.guard = none) (hx : Has ws a0 Γ x (Is (.pointer (some ⟨g, 0, none⟩)))) (hy : Has ws a0 Γ y (Is (.agg cs))) (hm : (g, cs, t2) ∈ L)
    (hi : (Tryz.prog.info? t).map (·.size) = some cs.size) (h1 : cs.all (·.oneCell') = true)
    (h : softG Tryz.prog B w0 ws L full a0 K n l ((o.dst, Is undef) :: Γ)) : softG Tryz.prog B w0 ws L full a0 K (n + 1) (o :: l) Γ :=
  ⟨Is undef, stb_is _, Or.inr (Or.inr ⟨⟨hgd, hd, fun w e hR hb hat => by
    have hx2 : e x = .pointer (some ⟨g, 0, none⟩) := hx w (e x) hb (hat x (by rw [ho]; exact Array.mem_def.2 (List.Mem.head _)))
    have hy2 : e y = .agg cs := hy w (e y) hb (hat y (by rw [ho]; exact Array.mem_def.2 (List.Mem.tail _ (List.Mem.head _))))
    have hrow := (hR.row _ hm).2
    have hst := run_storeVar_row (P := Tryz.prog) w g t2 t cs cs hrow hi rfl h1
    have hsame : w.setRow g cs = w := by
      unfold World.setRow
      refine (congrArg (fun h => { w with heap := h }) (?_ : _ = w.heap)).trans rfl
      apply Array.ext
      · simp
      · intro k h1 h2
        rw [Array.getElem_modify]
        split
        · next e =>
          subst e
          rw [(Array.getElem?_eq_some_iff.1 hrow).2]
        · rfl
    unfold execOp
    simp only [ho, hx2, hy2, Instr.storeAt, Instr.sureAddr, Sem.run_bind, Sem.run_pure, Result.andThen_ok, hst, hsame]⟩, fun _ => rfl⟩), h⟩
theorem g_move {x : Operand} {R : Prd} (ho : o.op = .move x) (hst : Stb R) (hx : Has ws a0 Γ x R) (h : softG Tryz.prog B w0 ws L full a0 K n l ((o.dst, R) :: Γ))
    (hlv : Live full ws a0 Γ o := by first | exact ⟨rfl, Or.inl rfl⟩ | exact live_of rfl rfl rfl (fun _ _ _ h => h)) : softG Tryz.prog B w0 ws L full a0 K (n + 1) (o :: l) Γ :=
  g_any hst (fun w e _ hb hat => by
    have h1 := hx w (e x) hb (hat x (by rw [ho]; exact Array.mem_singleton_self x))
    unfold execOp
    simp only [ho]
    exact ⟨h1, Below.refl _ _⟩) h hlv
theorem g_assign {x : Operand} {R : Prd} (ho : o.op = .assign x) (hst : Stb R) (hx : Has ws a0 Γ x R) (h : softG Tryz.prog B w0 ws L full a0 K n l ((o.dst, R) :: Γ))
    (hlv : Live full ws a0 Γ o := by first | exact ⟨rfl, Or.inl rfl⟩ | exact live_of rfl rfl rfl (fun _ _ _ h => h)) : softG Tryz.prog B w0 ws L full a0 K (n + 1) (o :: l) Γ :=
  g_any hst (fun w e _ hb hat => by
    have h1 := hx w (e x) hb (hat x (by rw [ho]; exact Array.mem_singleton_self x))
    unfold execOp
    simp only [ho]
    exact ⟨h1, Below.refl _ _⟩) h hlv
theorem g_val {x : Operand} {R A : Prd} (hst : Stb R) (hmem : x ∈ o.op.operands) (hx : Has ws a0 Γ x A) (hv : ∀ (w : World) (e : Operand → Value), Rws B w0 w L → Below ws.heap.size ws w → A w (e x) → ∃ v, (execOp e o).run Tryz.prog w = .ok (.value v) w ∧ R w v)
    (h : softG Tryz.prog B w0 ws L full a0 K n l ((o.dst, R) :: Γ)) (hlv : Live full ws a0 Γ o := by first | exact ⟨rfl, Or.inl rfl⟩ | exact live_of rfl rfl rfl (fun _ _ _ h => h)) : softG Tryz.prog B w0 ws L full a0 K (n + 1) (o :: l) Γ :=
  g_any hst (fun w e hR hb hat => by
    obtain ⟨v, hv1, hv2⟩ := hv w e hR hb (hx w (e x) hb (hat x hmem))
    rw [hv1]
    exact ⟨hv2, Below.refl _ _⟩) h hlv
/-- A whole struct or array. -/
theorem g_ldw {t t2 : TypeId} {x : Operand} {g : Nat} {cs : Array Value} {d : TypeDesc} {R : Prd} (ho : o.op = .load t x) (hx : Has ws a0 Γ x (Is (.pointer (some ⟨g, 0, none⟩)))) (hm : (g, cs, t2) ∈ L)
    (hu : Tryz.prog.underlying t = some d) (hd : isSA d = true) (hi : (Tryz.prog.info? t).map (·.size) = some cs.size)
    (hst : Stb R) (hr : ∀ w, Below ws.heap.size ws w → R w (.agg cs)) (h : softG Tryz.prog B w0 ws L full a0 K n l ((o.dst, R) :: Γ)) (hlv : Live full ws a0 Γ o := by first | exact ⟨rfl, Or.inl rfl⟩ | exact live_of rfl rfl rfl (fun _ _ _ h => h)) : softG Tryz.prog B w0 ws L full a0 K (n + 1) (o :: l) Γ :=
  g_val (x := x) (A := Is (.pointer (some ⟨g, 0, none⟩))) hst (by rw [ho]; exact Array.mem_singleton_self x) hx (fun w e hw hb he => by
    have h1 := run_load_part (P := Tryz.prog) (w := w) (k := 0) (vs := cs) (hw.row _ hm).2 hu (by cases d <;> first | rfl | cases hd) hi (fun j _ => by rw [Nat.zero_add])
    refine ⟨.agg cs, ?_, hr w hb⟩
    have he : e x = .pointer (some ⟨g, 0, none⟩) := he
    unfold execOp
    simp only [ho, he]
    rw [Sem.run_bind, h1]
    rfl) h hlv
theorem exec_call {f : FuncId} {xs : List Operand} {ats : Array TypeId} {fn : Func} {c : Code} {e : Operand → Value} {w : World} {o : Oper} (ho : o.op = .call { callee := .value (.func f), args := xs.toArray, argTypes := ats }) (hf : Tryz.prog.funcs[f]? = some fn) (hname : (fn.name == "runtime.NumGoroutine") = false) (hb : fn.body = some c) (hfun : e (.func f) = a0.eval (.func f)) :
    (execOp e o).run Tryz.prog w = .ok (.enter f (xs.map e).toArray) w := by
  have h1 : fn.name ≠ "runtime.NumGoroutine" := by simpa using hname
  have e1 : execOp e o = callFunc f (xs.map e).toArray := by
    unfold execOp
    simp only [ho, resolve, hfun]
    show callFunc f (#[] ++ xs.toArray.map e ++ #[]) = _
    simp
  rw [e1]
  simp [callFunc, hf, h1, hb]
/-- A call. -/
theorem g_call {f : FuncId} {xs : List Operand} {ats : Array TypeId} {fn : Func} {c : Code} {R : Prd} (ho : o.op = .call { callee := .value (.func f), args := xs.toArray, argTypes := ats }) (hf : Tryz.prog.funcs[f]? = some fn) (hname : (fn.name == "runtime.NumGoroutine") = false) (hb : fn.body = some c) (hst : Stb R)
    (hc : ∀ (w : World) (e : Operand → Value), Below ws.heap.size ws w → (∀ x, x ∈ xs → AtE a0 Γ w x (e x)) → Calls Tryz.prog f (xs.map e).toArray w fun en w' => ∃ v, en = .returned v ∧ R w' v ∧ Below w.heap.size w w')
    (h : softG Tryz.prog B w0 ws L full a0 K n l ((o.dst, R) :: Γ)) (hlv : Live full ws a0 Γ o := by first | exact ⟨rfl, Or.inl rfl⟩ | exact live_of rfl rfl rfl (fun _ _ _ h => h)) : softG Tryz.prog B w0 ws L full a0 K (n + 1) (o :: l) Γ :=
  g_any hst (fun w e _ hbl hat => by
    have hmem : ∀ x, x ∈ xs → x ∈ o.op.operands := fun x hx => by
      rw [ho]
      show x ∈ #[Operand.func f] ++ xs.toArray
      exact Array.mem_append.2 (Or.inr (by simpa using hx))
    have hfun : e (.func f) = a0.eval (.func f) := hat (.func f) (by
      rw [ho]
      show Operand.func f ∈ #[Operand.func f] ++ xs.toArray
      exact Array.mem_append.2 (Or.inl (Array.mem_singleton_self _)))
    rw [exec_call (a0 := a0) ho hf hname hb hfun]
    exact ⟨rfl, hc w e hbl fun x hx => hat x (hmem x hx)⟩) h hlv
theorem g_call1 {f : FuncId} {x : Operand} {ats : Array TypeId} {fn : Func} {c : Code} {A R : Prd} (ho : o.op = .call { callee := .value (.func f), args := [x].toArray, argTypes := ats }) (hf : Tryz.prog.funcs[f]? = some fn) (hname : (fn.name == "runtime.NumGoroutine") = false) (hb : fn.body = some c) (hst : Stb R)
    (hx : Has ws a0 Γ x A) (hc : ∀ (w : World) (v : Value), A w v → Calls Tryz.prog f #[v] w fun en w' => ∃ u, en = .returned u ∧ R w' u ∧ Below w.heap.size w w')
    (h : softG Tryz.prog B w0 ws L full a0 K n l ((o.dst, R) :: Γ)) (hlv : Live full ws a0 Γ o := by first | exact ⟨rfl, Or.inl rfl⟩ | exact live_of rfl rfl rfl (fun _ _ _ h => h)) : softG Tryz.prog B w0 ws L full a0 K (n + 1) (o :: l) Γ :=
  g_call ho hf hname hb hst (fun w e hbl hat => hc w (e x) (hx w _ hbl (hat x (List.Mem.head _)))) h hlv
theorem g_call2 {f : FuncId} {x y : Operand} {ats : Array TypeId} {fn : Func} {c : Code} {A A' R : Prd} (ho : o.op = .call { callee := .value (.func f), args := [x, y].toArray, argTypes := ats }) (hf : Tryz.prog.funcs[f]? = some fn) (hname : (fn.name == "runtime.NumGoroutine") = false) (hb : fn.body = some c) (hst : Stb R)
    (hx : Has ws a0 Γ x A) (hy : Has ws a0 Γ y A') (hc : ∀ (w : World) (v u : Value), A w v → A' w u → Calls Tryz.prog f #[v, u] w fun en w' => ∃ u, en = .returned u ∧ R w' u ∧ Below w.heap.size w w')
    (h : softG Tryz.prog B w0 ws L full a0 K n l ((o.dst, R) :: Γ)) (hlv : Live full ws a0 Γ o := by first | exact ⟨rfl, Or.inl rfl⟩ | exact live_of rfl rfl rfl (fun _ _ _ h => h)) : softG Tryz.prog B w0 ws L full a0 K (n + 1) (o :: l) Γ :=
  g_call ho hf hname hb hst (fun w e hbl hat => hc w (e x) (e y) (hx w _ hbl (hat x (List.Mem.head _))) (hy w _ hbl (hat y (List.Mem.tail _ (List.Mem.head _))))) h hlv
theorem g_two {x y : Operand} {v u r : Value} (hm : x ∈ o.op.operands) (hm2 : y ∈ o.op.operands) (hx : Has ws a0 Γ x (Is v)) (hy : Has ws a0 Γ y (Is u))
    (hr : ∀ (w : World) (e : Operand → Value), e x = v → e y = u → (execOp e o).run Tryz.prog w = .ok (.value r) w)
    (h : softG Tryz.prog B w0 ws L full a0 K n l ((o.dst, Is r) :: Γ)) (hlv : Live full ws a0 Γ o := by first | exact ⟨rfl, Or.inl rfl⟩ | exact live_of rfl rfl rfl (fun _ _ _ h => h)) : softG Tryz.prog B w0 ws L full a0 K (n + 1) (o :: l) Γ :=
  g_any (stb_is _) (fun w e _ hb hat => by
    have h1 : e x = v := hx w _ hb (hat x hm)
    have h2 : e y = u := hy w _ hb (hat y hm2)
    rw [hr w e h1 h2]
    exact ⟨rfl, Below.refl _ _⟩) h hlv
/-- A sum, a quotient, a comparison .. of two values. -/
theorem g_bin {x y : Operand} {b : BinOp} {t t2 : TypeId} {v u r : Value} (ho : o.op = .binOp b t x y t2) (hx : Has ws a0 Γ x (Is v)) (hy : Has ws a0 Γ y (Is u)) (hg : eqGuard b t x y v u = pure ())
    (hr : ∀ W : World, (binOp b t v u).run Tryz.prog W = .ok r W)
    (h : softG Tryz.prog B w0 ws L full a0 K n l ((o.dst, Is r) :: Γ)) (hlv : Live full ws a0 Γ o := by first | exact ⟨rfl, Or.inl rfl⟩ | exact live_of rfl rfl rfl (fun _ _ _ h => h)) : softG Tryz.prog B w0 ws L full a0 K (n + 1) (o :: l) Γ :=
  g_two (x := x) (y := y) (by rw [ho]; exact Array.mem_def.2 (List.Mem.head _)) (by rw [ho]; exact Array.mem_def.2 (List.Mem.tail _ (List.Mem.head _))) hx hy (fun w e h1 h2 => by
    unfold execOp
    simp only [ho, h1, h2]
    rw [hg, Sem.run_bind, Sem.run_bind, Sem.run_pure]
    show ((binOp b t v u).run Tryz.prog w).andThen _ = _
    rw [hr w]
    rfl) h hlv
/-- One of two, by a bool. -/
theorem g_pick {x y z : Operand} {b : Bool} {R : Prd} (ho : o.op = .pick x y z) (hx : Has ws a0 Γ x (Is (.bool b))) (hst : Stb R) (hy : Has ws a0 Γ (bif b then y else z) R)
    (h : softG Tryz.prog B w0 ws L full a0 K n l ((o.dst, R) :: Γ)) (hlv : Live full ws a0 Γ o := by first | exact ⟨rfl, Or.inl rfl⟩ | exact live_of rfl rfl rfl (fun _ _ _ h => h)) : softG Tryz.prog B w0 ws L full a0 K (n + 1) (o :: l) Γ :=
  g_any hst (fun w e _ hb hat => by
    have h1 : e x = .bool b := hx w _ hb (hat x (by rw [ho]; exact Array.mem_def.2 (List.Mem.head _)))
    have h2 : R w (e (bif b then y else z)) := hy w _ hb (hat _ (by
      rw [ho]; cases b
      · exact Array.mem_def.2 (List.Mem.tail _ (List.Mem.tail _ (List.Mem.head _)))
      · exact Array.mem_def.2 (List.Mem.tail _ (List.Mem.head _))))
    unfold execOp
    simp only [ho, h1]
    cases b
    · exact ⟨h2, Below.refl _ _⟩
    · exact ⟨h2, Below.refl _ _⟩) h hlv
/-- Of one operand: a conversion, a length, a cut .. -/
theorem g_one {x : Operand} {A : Prd} {r : Value} (hm : x ∈ o.op.operands) (hx : Has ws a0 Γ x A) (hr : ∀ (w : World) (e : Operand → Value), Below ws.heap.size ws w → A w (e x) → (execOp e o).run Tryz.prog w = .ok (.value r) w)
    (h : softG Tryz.prog B w0 ws L full a0 K n l ((o.dst, Is r) :: Γ)) (hlv : Live full ws a0 Γ o := by first | exact ⟨rfl, Or.inl rfl⟩ | exact live_of rfl rfl rfl (fun _ _ _ h => h)) : softG Tryz.prog B w0 ws L full a0 K (n + 1) (o :: l) Γ :=
  g_val (stb_is _) hm hx (fun w e _ hb he => ⟨r, hr w e hb he, rfl⟩) h hlv
theorem g_not {x : Operand} {t : TypeId} {b : Bool} (ho : o.op = .unOp .not t x) (hx : Has ws a0 Γ x (Is (.bool b)))
    (h : softG Tryz.prog B w0 ws L full a0 K n l ((o.dst, Is (.bool (!b))) :: Γ)) (hlv : Live full ws a0 Γ o := by first | exact ⟨rfl, Or.inl rfl⟩ | exact live_of rfl rfl rfl (fun _ _ _ h => h)) : softG Tryz.prog B w0 ws L full a0 K (n + 1) (o :: l) Γ :=
  g_one (x := x) (by rw [ho]; exact Array.mem_singleton_self x) hx (fun w e _ he => by
    have he : e x = .bool b := he
    unfold execOp
    simp only [ho, he]
    rfl) h hlv
theorem exec_callv {f : FuncId} {y : Operand} {xs : List Operand} {ats : Array TypeId} {fn : Func} {c : Code} {e : Operand → Value} {w : World} {o : Oper} (ho : o.op = .call { callee := .value y, args := xs.toArray, argTypes := ats }) (hf : Tryz.prog.funcs[f]? = some fn) (hname : (fn.name == "runtime.NumGoroutine") = false) (hb : fn.body = some c) (hfun : e y = .func (.func f) #[] #[]) :
    (execOp e o).run Tryz.prog w = .ok (.enter f (xs.map e).toArray) w := by
  have h1 : fn.name ≠ "runtime.NumGoroutine" := by simpa using hname
  have e1 : execOp e o = callFunc f (xs.map e).toArray := by
    unfold execOp
    simp only [ho, resolve, hfun]
    show callFunc f (#[] ++ xs.toArray.map e ++ #[]) = _
    simp
  rw [e1]
  simp [callFunc, hf, h1, hb]
theorem g_callv {f : FuncId} {y : Operand} {xs : List Operand} {ats : Array TypeId} {fn : Func} {c : Code} {R : Prd} (ho : o.op = .call { callee := .value y, args := xs.toArray, argTypes := ats }) (hf : Tryz.prog.funcs[f]? = some fn) (hname : (fn.name == "runtime.NumGoroutine") = false) (hb : fn.body = some c) (hst : Stb R)
    (hy : Has ws a0 Γ y (Is (.func (.func f) #[] #[])))
    (hc : ∀ (w : World) (e : Operand → Value), Below ws.heap.size ws w → (∀ x, x ∈ xs → AtE a0 Γ w x (e x)) → Calls Tryz.prog f (xs.map e).toArray w fun en w' => ∃ v, en = .returned v ∧ R w' v ∧ Below w.heap.size w w')
    (h : softG Tryz.prog B w0 ws L full a0 K n l ((o.dst, R) :: Γ)) (hlv : Live full ws a0 Γ o := by first | exact ⟨rfl, Or.inl rfl⟩ | exact live_of rfl rfl rfl (fun _ _ _ h => h)) : softG Tryz.prog B w0 ws L full a0 K (n + 1) (o :: l) Γ :=
  g_any hst (fun w e _ hbl hat => by
    have hmem : ∀ x, x ∈ xs → x ∈ o.op.operands := fun x hx => by
      rw [ho]
      show x ∈ #[y] ++ xs.toArray
      exact Array.mem_append.2 (Or.inr (by simpa using hx))
    have hfun : e y = .func (.func f) #[] #[] := hy w _ hbl (hat y (by
      rw [ho]
      show y ∈ #[y] ++ xs.toArray
      exact Array.mem_append.2 (Or.inl (Array.mem_singleton_self _))))
    rw [exec_callv ho hf hname hb hfun]
    exact ⟨rfl, hc w e hbl fun x hx => hat x (hmem x hx)⟩) h hlv
theorem g_callv1 {f : FuncId} {y x : Operand} {ats : Array TypeId} {fn : Func} {c : Code} {A R : Prd} (ho : o.op = .call { callee := .value y, args := [x].toArray, argTypes := ats }) (hf : Tryz.prog.funcs[f]? = some fn) (hname : (fn.name == "runtime.NumGoroutine") = false) (hb : fn.body = some c) (hst : Stb R)
    (hy : Has ws a0 Γ y (Is (.func (.func f) #[] #[]))) (hx : Has ws a0 Γ x A) (hc : ∀ (w : World) (v : Value), A w v → Calls Tryz.prog f #[v] w fun en w' => ∃ u, en = .returned u ∧ R w' u ∧ Below w.heap.size w w')
    (h : softG Tryz.prog B w0 ws L full a0 K n l ((o.dst, R) :: Γ)) (hlv : Live full ws a0 Γ o := by first | exact ⟨rfl, Or.inl rfl⟩ | exact live_of rfl rfl rfl (fun _ _ _ h => h)) : softG Tryz.prog B w0 ws L full a0 K (n + 1) (o :: l) Γ :=
  g_callv ho hf hname hb hst hy (fun w e hbl hat => hc w (e x) (hx w _ hbl (hat x (List.Mem.head _)))) h hlv
theorem g_callv2 {f : FuncId} {y x z : Operand} {ats : Array TypeId} {fn : Func} {c : Code} {A A' R : Prd} (ho : o.op = .call { callee := .value y, args := [x, z].toArray, argTypes := ats }) (hf : Tryz.prog.funcs[f]? = some fn) (hname : (fn.name == "runtime.NumGoroutine") = false) (hb : fn.body = some c) (hst : Stb R)
    (hy : Has ws a0 Γ y (Is (.func (.func f) #[] #[]))) (hx : Has ws a0 Γ x A) (hz : Has ws a0 Γ z A') (hc : ∀ (w : World) (v u : Value), A w v → A' w u → Calls Tryz.prog f #[v, u] w fun en w' => ∃ u, en = .returned u ∧ R w' u ∧ Below w.heap.size w w')
    (h : softG Tryz.prog B w0 ws L full a0 K n l ((o.dst, R) :: Γ)) (hlv : Live full ws a0 Γ o := by first | exact ⟨rfl, Or.inl rfl⟩ | exact live_of rfl rfl rfl (fun _ _ _ h => h)) : softG Tryz.prog B w0 ws L full a0 K (n + 1) (o :: l) Γ :=
  g_callv ho hf hname hb hst hy (fun w e hbl hat => hc w (e x) (e z) (hx w _ hbl (hat x (List.Mem.head _))) (hz w _ hbl (hat z (List.Mem.tail _ (List.Mem.head _))))) h hlv
end
end Go.Proofs.YtebhiplcoioenaaGreatDoor
