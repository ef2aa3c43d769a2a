/- Plain: what is read may be, and is not greater than its text. -/
import Derived.Test.YthpagppipifgeaaGreatDoorZLTokP
import Derived.Test.YthpagppipifgeaaGreatDoorZLB
namespace Go.Proofs.YthpagppipifgeaaGreatDoor
open Go.RowKit

def mayQ (p : Po) : Bool := mayP p.k p.o p.n p.t p.kids
def LitsOk (ts : List Tok) : Prop := ∀ t, (t, true) ∈ ts → litB (bs t) = true
theorem tk_snoc_may (F : Fo) (p : Po) : (F.snoc p).may = (F.may && mayQ p) := by
  induction F with
  | nil => simp [Fo.snoc, Fo.may, mayQ, mayP]
  | cons k o n t kids nx _ ih => simp only [Fo.snoc, Fo.may, ih, Bool.and_assoc]
theorem tk_snoc_cnt (F : Fo) (p : Po) : (F.snoc p).cnt = F.cnt + p.kids.cnt + 1 := by
  induction F with
  | nil => simp [Fo.snoc, Fo.cnt]
  | cons k o n t kids nx _ ih => simp only [Fo.snoc, Fo.cnt, ih]; omega
theorem look_may {sub n : List UInt8} {o : Int} (h : lookS sub = some (o, n)) : 0 ≤ o ∧ o < 4 ∧ (if o = 2 ∨ o = 3 then nameB (bs n) else decide ((bs n).toList = [])) = true := by
  unfold lookS at h
  split at h
  · cases h; exact ⟨by decide, by decide, by decide +kernel⟩
  · split at h
    · cases h; exact ⟨by decide, by decide, by decide +kernel⟩
    · split at h
      · next h2 => cases h; exact ⟨by decide, by decide, by rw [if_pos (Or.inl rfl)]; exact h2.2.2⟩
      · split at h
        · next h2 => cases h; exact ⟨by decide, by decide, by rw [if_pos (Or.inr rfl)]; exact h2.2.2⟩
        · cases h
theorem opW_may {b : List UInt8} {k : Int} (h : opW b = some k) : k = 4 ∨ k = 5 ∨ k = 6 := by
  unfold opW at h
  split at h
  · cases h; exact Or.inl rfl
  · split at h
    · cases h; exact Or.inr (Or.inl rfl)
    · split at h
      · cases h; exact Or.inr (Or.inr rfl)
      · cases h
theorem testM_ok {k o : Int} {n t : ByteArray} {l : Nat} {m : Bool} (hk : k = 4 ∨ k = 5 ∨ k = 6) (hl : l = 0) (h0 : 0 ≤ o) (h1 : o < 4) (hn : (if o = 2 ∨ o = 3 then nameB n else decide (n.toList = [])) = true) (ht : litB t = true) : nodeB k o n t l m = true := by
  unfold nodeB
  rw [if_neg (by omega), if_neg (by omega), if_neg (by omega), if_pos hk, hn, ht]
  simp [hl, h0, h1]
theorem testL_may {ts r : List Tok} {p : Po} (hl : LitsOk ts) (h : testL ts = some (p, r)) : mayQ p = true ∧ p.kids.cnt + 1 + r.length ≤ ts.length ∧ LitsOk r := by
  unfold testL at h
  split at h
  · next a b t r' =>
    split at h
    · cases h
    · next o n e1 =>
      split at h
      · cases h
      · next k e2 =>
        cases h
        obtain ⟨h0, h1, h2⟩ := look_may e1
        exact ⟨testM_ok (opW_may e2) rfl h0 h1 h2 (hl t (by simp)), by simp only [Fo.cnt, List.length_cons]; omega, fun u hu => hl u (by simp [hu])⟩
  · cases h
theorem LitsOk.tail {ts : List Tok} (h : LitsOk ts) : LitsOk ts.tail := fun t ht => h t (List.mem_of_mem_tail ht)
theorem isT_len {w : List UInt8} {ts : List Tok} (h : isT w ts = true) : ts.tail.length + 1 = ts.length := by
  cases ts with
  | nil => exact absurd h (by unfold isT; simp)
  | cons x r => rfl
theorem plain00 : plainB 0 e0 e0 = true := by decide +kernel
def ReadOk (ts : List Tok) (o : LRes) : Prop := ∀ p r, o = some (p, r) → mayQ p = true ∧ p.kids.cnt + 1 + r.length ≤ ts.length ∧ LitsOk r
theorem oneL_may {pl : Nat → List Tok → LRes} (hp : ∀ lv ts, LitsOk ts → ReadOk ts (pl lv ts)) {ts : List Tok} (hl : LitsOk ts) : ReadOk ts (oneL pl ts) := by
  intro p r h
  unfold oneL at h
  split at h
  · next hi =>
    have hil := isT_len hi
    split at h
    · cases h
    · next q r2 e =>
      obtain ⟨h1, h2, h3⟩ := hp _ _ hl.tail _ _ e
      split at h
      · next hi2 => cases h; have := isT_len hi2; exact ⟨h1, by omega, h3.tail⟩
      · cases h
  · split at h
    · next hi =>
      have hil := isT_len hi
      cases h
      exact ⟨by decide +kernel, by simp only [Fo.cnt]; omega, hl.tail⟩
    · split at h
      · next hi =>
        have hil := isT_len hi
        split at h
        · cases h
        · next q r2 e =>
          obtain ⟨h1, h2, h3⟩ := hp _ _ hl.tail _ _ e
          cases h
          refine ⟨?_, by simp only [Fo.cnt]; omega, h3⟩
          show nodeB 1 0 e0 e0 1 (nodeB q.k q.o q.n q.t q.kids.len q.kids.may && true) = true
          have : nodeB q.k q.o q.n q.t q.kids.len q.kids.may = true := h1
          rw [this]
          unfold nodeB
          rw [plain00]; rfl
      · exact testL_may hl h
theorem both_may : ∀ f, (∀ lv ts, LitsOk ts → ReadOk ts (parseL f lv ts)) ∧
    (∀ lv acc q ts, LitsOk ts → acc.may = true → mayQ q = true → 1 ≤ acc.len → (acc.len = 1 → acc = .cons q.k q.o q.n q.t q.kids .nil) → ∀ p r, loopL f lv acc q ts = some (p, r) →
      mayQ p = true ∧ p.kids.cnt + 1 + r.length ≤ acc.cnt + (if acc.len = 1 then 0 else 1) + ts.length ∧ LitsOk r) := by
  intro f
  induction f with
  | zero =>
    constructor
    · intro lv ts _ p r h
      cases h
    · intro lv acc q ts _ _ _ _ _ p r h
      cases h
  | succ f ih =>
    constructor
    · intro lv ts hl
      cases lv with
      | zero => rw [parseL_one]; exact oneL_may ih.1 hl
      | succ lv =>
        intro p r h
        rw [parseL_list] at h
        split at h
        · cases h
        · next p1 r1 e =>
          obtain ⟨k1, k2, k3⟩ := ih.1 _ _ hl _ _ e
          obtain ⟨m1, m2, m3⟩ := ih.2 lv (.cons p1.k p1.o p1.n p1.t p1.kids .nil) p1 r1 k3 (by simp only [Fo.may, Bool.and_true]; exact k1) k1 (Nat.le_refl _) (fun _ => rfl) p r h
          rw [show (Fo.cons p1.k p1.o p1.n p1.t p1.kids Fo.nil).len = 1 from rfl, if_pos rfl] at m2
          simp only [Fo.cnt] at m2
          exact ⟨m1, by omega, m3⟩
    · intro lv acc q ts hl ha hq h1 hone p r h
      rw [loopL_succ] at h
      split at h
      · next hi =>
        have hil := isT_len hi
        split at h
        · cases h
        · next p2 r2 e =>
          obtain ⟨k1, k2, k3⟩ := ih.1 _ _ hl.tail _ _ e
          have hsl := Fo.snoc_len acc p2
          have hsc := tk_snoc_cnt acc p2
          obtain ⟨m1, m2, m3⟩ := ih.2 lv (acc.snoc p2) p2 r2 k3 (by rw [tk_snoc_may, ha, k1]; rfl) k1 (by omega) (fun e => by omega) p r h
          rw [if_neg (by omega)] at m2
          exact ⟨m1, by omega, m3⟩
      · cases h
        unfold finP
        by_cases ho : acc.len = 1
        · rw [if_pos ho, if_pos ho]
          have := hone ho
          refine ⟨hq, ?_, hl⟩
          rw [this]; simp only [Fo.cnt]; omega
        · rw [if_neg ho, if_neg ho]
          refine ⟨?_, by simp only; omega, hl⟩
          show nodeB (kOf lv) 0 e0 e0 acc.len acc.may = true
          rw [ha]
          have hk : kOf lv = 2 ∨ kOf lv = 3 := by unfold kOf; split; exact Or.inl rfl; exact Or.inr rfl
          unfold nodeB
          rw [if_neg (by omega), if_neg (by omega), if_pos hk, plain00]
          simp; omega
theorem TK_len : ∀ (n : Nat) (s : List UInt8), s.length ≤ n → (TK s).1.length ≤ s.length ∧ LitsOk (TK s).1 := by
  intro n
  induction n with
  | zero => intro s hs; have : s = [] := List.eq_nil_of_length_eq_zero (by omega); subst this; rw [TK_nil]; exact ⟨Nat.le_refl _, fun t ht => by simp at ht⟩
  | succ n ih =>
    intro s hs
    cases s with
    | nil => rw [TK_nil]; exact ⟨Nat.le_refl _, fun t ht => by simp at ht⟩
    | cons c r =>
      simp only [List.length_cons] at hs
      by_cases h32 : c = 32
      · subst h32
        rw [TK_blank]
        obtain ⟨h1, h2⟩ := ih r (by omega)
        exact ⟨by simp only [List.length_cons]; omega, h2⟩
      by_cases hb : c = 40 ∨ c = 41
      · rw [TK_br r hb]
        obtain ⟨h1, h2⟩ := ih r (by omega)
        refine ⟨by simp only [List.length_cons]; omega, fun t ht => ?_⟩
        simp at ht; exact h2 t ht
      by_cases hq : c = 34
      · subst hq
        cases hl : lit2 (litS r []) with
        | none => rw [TK_none hl]; exact ⟨Nat.zero_le _, fun t ht => by simp at ht⟩
        | some q =>
          obtain ⟨b, r'⟩ := q
          rw [TK_some hl]
          have hle := lit2_le hl
          obtain ⟨h1, h2⟩ := ih r' (by omega)
          refine ⟨by simp only [List.length_cons]; omega, fun t ht => ?_⟩
          simp only [List.mem_cons, Prod.mk.injEq, and_true] at ht
          rcases ht with rfl | ht
          · unfold lit2 at hl
            cases hx : litS r [] with
            | none => rw [hx] at hl; cases hl
            | some y =>
              rw [hx] at hl
              simp only at hl
              split at hl
              · next hg => cases hl; exact hg
              · cases hl
          · exact h2 t ht
      by_cases hw : wdC c = true
      · rw [TK_word r hw]
        have hd := drop_word (r := r) hw
        simp only [List.length_cons] at hd
        obtain ⟨h1, h2⟩ := ih ((c :: r).dropWhile wdC) (by omega)
        refine ⟨by simp only [List.length_cons]; omega, fun t ht => ?_⟩
        simp at ht; exact h2 t ht
      · rw [TK_bad r h32 hb hq hw]; exact ⟨Nat.zero_le _, fun t ht => by simp at ht⟩
end Go.Proofs.YthpagppipifgeaaGreatDoor
