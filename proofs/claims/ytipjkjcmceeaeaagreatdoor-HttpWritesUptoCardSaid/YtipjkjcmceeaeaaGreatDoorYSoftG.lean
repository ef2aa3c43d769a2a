/- Soft regions with guarded operations: where it is known ahead which of them are done, one walk in the order of the text serves every order. -/
import Derived.Test.YtipjkjcmceeaeaaGreatDoorYSoft
namespace Go.Proofs.YtipjkjcmceeaeaaGreatDoor
open Go.RowKit
section
variable {P : Program} {B : Nat} {w0 ws : World} {L : List (Nat × Array Value × TypeId)} {l : List Oper} {n : Nat}

/-- What is known of the guard of an operation: the slot that it looks at, and what stands there. -/
def GuardIs (full : List Oper) (ws : World) (a0 : Act) (Γ : Env) (o : Oper) (is : Bool → Bool → Prop) : Prop :=
  match o.guard with
  | none => False
  | some (g, want) => ∃ tg b, (full[g]?).bind (·.dst) = some tg ∧ is b want ∧ ∀ w v, Below ws.heap.size ws w → AtE a0 Γ w (.tmp tg) v → v = .bool b
/-- It is done. -/
def Live (full : List Oper) (ws : World) (a0 : Act) (Γ : Env) (o : Oper) : Prop := o.dst.isSome = true ∧ (o.guard = none ∨ GuardIs full ws a0 Γ o fun b want => b = want)
/-- It is passed over. -/
def Dead (full : List Oper) (ws : World) (a0 : Act) (Γ : Env) (o : Oper) : Prop := GuardIs full ws a0 Γ o fun b want => (b == want) = false
/-- It changes nothing, and answers nothing (a store of what stands there). -/
def Still (P : Program) (B : Nat) (w0 ws : World) (L : List (Nat × Array Value × TypeId)) (a0 : Act) (Γ : Env) (o : Oper) : Prop := o.guard = none ∧ o.dst = none ∧
  ∀ (w : World) (e : Operand → Value), Rws B w0 w L → Below ws.heap.size ws w → (∀ x, x ∈ o.op.operands → AtE a0 Γ w x (e x)) → (execOp e o).run P w = .ok .skip w
def SoftOpG (P : Program) (B : Nat) (w0 ws : World) (L : List (Nat × Array Value × TypeId)) (full : List Oper) (a0 : Act) (Γ : Env) (o : Oper) (R : Prd) : Prop :=
  (Live full ws a0 Γ o ∧ SoftOp P B w0 ws L a0 Γ o R) ∨ (Dead full ws a0 Γ o ∧ ∀ w, R w undef) ∨ (Still P B w0 ws L a0 Γ o ∧ ∀ w, R w undef)
def softG (P : Program) (B : Nat) (w0 ws : World) (L : List (Nat × Array Value × TypeId)) (full : List Oper) (a0 : Act) (K : Act → World → Prop) : Nat → List Oper → Env → Prop
  | 0, _, Γ => ∀ w, Rws B w0 w L → Below ws.heap.size ws w → softEnd K w Γ.reverse a0
  | _ + 1, [], Γ => ∀ w, Rws B w0 w L → Below ws.heap.size ws w → softEnd K w Γ.reverse a0
  | n + 1, o :: l, Γ => ∃ R, Stb R ∧ SoftOpG P B w0 ws L full a0 Γ o R ∧ softG P B w0 ws L full a0 K n l ((o.dst, R) :: Γ)

def okG (l : List Oper) (n i : Nat) : Bool :=
  match l[i]? with
  | none => false
  | some o => (match o.guard with | none => true | some (g, _) => decide (g < i) && Region.waitsFor .any l.toArray i g) && o.after.all (fun e => !Region.binds .any e || decide (e.on < i)) &&
    (List.range n).all fun j => match l[j]? with
      | none => false
      | some p => (i == j || o.dst.isNone || o.dst != p.dst) &&
        o.op.operands.all fun x => match x with
          | .tmp t => p.dst != some t || (decide (j < i) && Region.waitsFor .any l.toArray i j)
          | _ => true
def sideG (n : Nat) (l : List Oper) : Bool :=
  decide (n < l.length) && Region.sinkB .any l.toArray n && Region.chainB .any l.toArray n && (List.range n).all (okG l n) &&
    Region.seqB .any l.toArray (l.length - n) n ((List.replicate n true ++ List.replicate (l.length - n) false).toArray)

structure OkG (l : List Oper) (n i : Nat) (o : Oper) : Prop where
  guard : ∀ g want, o.guard = some (g, want) → g < i ∧ Region.waitsFor .any l.toArray i g = true
  back : ∀ e, e ∈ o.after → Region.binds .any e = true → e.on < i
  dst : ∀ j p t, j < n → l[j]? = some p → j ≠ i → o.dst = some t → p.dst ≠ some t
  use : ∀ j p t, j < n → l[j]? = some p → Operand.tmp t ∈ o.op.operands → p.dst = some t → j < i ∧ Region.waitsFor .any l.toArray i j = true

theorem okG_spec {i : Nat} {o : Oper} (hi : l[i]? = some o) (h : okG l n i = true) : OkG l n i o := by
  unfold okG at h
  rw [hi] at h
  simp only [Bool.and_eq_true] at h
  obtain ⟨⟨hg, ha⟩, hr⟩ := h
  have key : ∀ j p, j < n → l[j]? = some p → (i == j || o.dst.isNone || o.dst != p.dst) = true ∧ (o.op.operands.all fun x => match x with
          | .tmp t => p.dst != some t || (decide (j < i) && Region.waitsFor .any l.toArray i j)
          | _ => true) = true := by
    intro j p hj hp
    have h1 := List.all_eq_true.1 hr j (List.mem_range.2 hj)
    rw [hp] at h1
    simpa only [Bool.and_eq_true] using h1
  refine ⟨fun g want hgw => by rw [hgw] at hg; simpa using hg, ?_, ?_, ?_⟩
  · intro e he hb
    have h1 := Array.all_eq_true_iff_forall_mem.1 ha e he
    rw [hb] at h1
    simpa using h1
  · intro j p t hj hp hji hd hd2
    have h1 := (key j p hj hp).1
    rw [hd, hd2] at h1
    simp only [bne_self_eq_false, Bool.or_false, Option.isNone_some, beq_iff_eq] at h1
    exact hji h1.symm
  · intro j p t hj hp hx ht
    have h1 := Array.all_eq_true_iff_forall_mem.1 (key j p hj hp).2 _ hx
    simp only [ht, bne_self_eq_false, Bool.false_or, Bool.and_eq_true, decide_eq_true_eq] at h1
    exact h1

theorem look_envG {Rs : Nat → Prd} (hok : ∀ i o, i < n → l[i]? = some o → OkG l n i o) (hn : n ≤ l.length) : ∀ k, k ≤ n →
    (∀ t, (∀ j p, j < k → l[j]? = some p → p.dst ≠ some t) → look (envOf l Rs k) t = none) ∧ ∀ j p t, j < k → l[j]? = some p → p.dst = some t → look (envOf l Rs k) t = some (Rs j)
  | 0, _ => ⟨fun _ _ => rfl, fun j _ _ hj => absurd hj (Nat.not_lt_zero j)⟩
  | k + 1, hk => by
    obtain ⟨h1, h2⟩ := look_envG (Rs := Rs) hok hn k (by omega)
    obtain ⟨o, ho⟩ : ∃ o, l[k]? = some o := ⟨l[k], List.getElem?_eq_getElem (by omega)⟩
    cases hs : o.dst with
    | none =>
      have he : envOf l Rs (k + 1) = (none, Rs k) :: envOf l Rs k := by
        show ((l[k]?).bind (·.dst), Rs k) :: envOf l Rs k = _
        rw [ho]; simp [hs]
      rw [he]
      refine ⟨fun t ht => h1 t fun j p hj hp => ht j p (by omega) hp, fun j p t hj hp hd => ?_⟩
      by_cases e : j = k
      · subst e
        have e2 : o = p := Option.some.inj (ho.symm.trans hp)
        subst e2
        rw [hs] at hd; cases hd
      · exact h2 j p t (by omega) hp hd
    | some s =>
    have he : envOf l Rs (k + 1) = (some s, Rs k) :: envOf l Rs k := by
      show ((l[k]?).bind (·.dst), Rs k) :: envOf l Rs k = _
      rw [ho]; simp [hs]
    rw [he]
    have hb : ∀ t, look ((some s, Rs k) :: envOf l Rs k) t = bif Nat.beq s t then some (Rs k) else look (envOf l Rs k) t := fun _ => rfl
    refine ⟨fun t ht => ?_, fun j p t hj hp hd => ?_⟩
    · have hne : s ≠ t := fun e => ht k o (by omega) ho (by rw [hs, e])
      rw [hb, show Nat.beq s t = false from nbeq hne]
      exact h1 t fun j p hj hp => ht j p (by omega) hp
    · by_cases e : j = k
      · subst e
        have e2 : o = p := Option.some.inj (ho.symm.trans hp)
        subst e2
        rw [hs] at hd
        have e3 : s = t := Option.some.inj hd
        subst e3
        rw [hb, Nat.beq_refl]; rfl
      · have hne : s ≠ t := fun e2 => (hok k o (by omega) ho).dst j p t (by omega) hp e (by rw [hs, e2]) hd
        rw [hb, show Nat.beq s t = false from nbeq hne]
        exact h2 j p t (by omega) hp hd

theorem softG_spec {a0 : Act} {K : Act → World → Prop} (full : List Oper) : ∀ (n k : Nat) (l : List Oper) (Rs0 : Nat → Prd), n ≤ l.length → (∀ j, l[j]? = full[k + j]?) → softG P B w0 ws L full a0 K n l (envOf full Rs0 k) →
    ∃ Rs : Nat → Prd, (∀ j, j < k → Rs j = Rs0 j) ∧ (∀ i o, k ≤ i → i < k + n → full[i]? = some o → Stb (Rs i) ∧ SoftOpG P B w0 ws L full a0 (envOf full Rs i) o (Rs i)) ∧ ∀ w, Rws B w0 w L → Below ws.heap.size ws w → softEnd K w (envOf full Rs (k + n)).reverse a0
  | 0, k, _, Rs0, _, _, h => ⟨Rs0, fun _ _ => rfl, fun i _ h1 h2 => absurd h2 (by omega), h⟩
  | _ + 1, _, [], _, hn, _, _ => absurd hn (Nat.not_succ_le_zero _)
  | n + 1, k, o :: l, Rs0, hn, hl, h => by
    obtain ⟨R, hst, hop, h⟩ := h
    have ho : full[k]? = some o := by simpa using (hl 0).symm
    have henv : ∀ (R1 R2 : Nat → Prd) m, (∀ j, j < m → R1 j = R2 j) → envOf full R1 m = envOf full R2 m := by
      intro R1 R2 m hm
      induction m with
      | zero => rfl
      | succ m ih =>
        show _ :: _ = _ :: _
        rw [ih (fun j hj => hm j (by omega)), hm m (by omega)]
    have e1 : envOf full (fun j => if j = k then R else Rs0 j) k = envOf full Rs0 k := henv _ _ k fun j hj => if_neg (by omega)
    have e2 : envOf full (fun j => if j = k then R else Rs0 j) (k + 1) = (o.dst, R) :: envOf full Rs0 k := by
      show ((full[k]?).bind (·.dst), (if k = k then R else Rs0 k)) :: envOf full _ k = _
      rw [ho, e1, if_pos rfl]; rfl
    rw [← e2] at h
    obtain ⟨Rs, hs1, hs2, hs3⟩ := softG_spec full n (k + 1) l _ (Nat.le_of_succ_le_succ hn) (fun j => by have := hl (j + 1); rw [List.getElem?_cons_succ] at this; rw [this]; congr 1; omega) h
    refine ⟨Rs, fun j hj => by rw [hs1 j (by omega), if_neg (by omega)], fun i p h1 h2 hp => ?_, by rw [show k + (n + 1) = k + 1 + n by omega]; exact hs3⟩
    by_cases e : i = k
    · subst e
      have e3 : o = p := Option.some.inj (ho.symm.trans hp)
      subst e3
      have e4 : Rs i = R := by rw [hs1 i (by omega), if_pos rfl]
      have e5 : envOf full Rs i = envOf full Rs0 i := henv _ _ i fun j hj => by rw [hs1 j (by omega), if_neg (by omega)]
      rw [e4, e5]
      exact ⟨hst, hop⟩
    · exact hs2 i p (by omega) (by omega) hp

structure SimG (B : Nat) (w0 ws : World) (L : List (Nat × Array Value × TypeId)) (l : List Oper) (n : Nat) (Rs : Nat → Prd) (a0 : Act) (listed : Array Bool) (a : Act) (w : World) : Prop where
  size : a.tmps.size = a0.tmps.size
  defers : a.defers = a0.defers
  keep : ∀ t, (∀ i o, i < n → l[i]? = some o → o.dst ≠ some t) → a.tmps[t]? = a0.tmps[t]?
  val : ∀ i o t, i < n → l[i]? = some o → listed.getD i false = true → o.dst = some t → ∃ v, a.tmps[t]? = some v ∧ Rs i w v
  rws : Rws B w0 w L
  bel : Below ws.heap.size ws w

theorem SimG.next {Rs : Nat → Prd} {a0 : Act} {listed : Array Bool} {a : Act} {w w' : World} (h : SimG B w0 ws L l n Rs a0 listed a w) {i : Nat} {o : Oper} (hi : i < n) (ho : l[i]? = some o)
    (hok : OkG l n i o) (hst : ∀ i o, i < n → l[i]? = some o → Stb (Rs i)) (hsz : ∀ t, o.dst = some t → t < a0.tmps.size) {v : Value} (hv : Rs i w' v) (hb : Below w.heap.size w w') : SimG B w0 ws L l n Rs a0 (listed.setIfInBounds i true) (a.put o.dst v) w' := by
  refine ⟨by rw [put_size, h.size], by rw [put_defers, h.defers], fun t ht => ?_, fun j p t hj hp hl hd => ?_, h.rws.call hb, h.bel.trans (hb.mono h.bel.size)⟩
  · rw [put_tmps, if_neg (ht i o hi ho)]
    exact h.keep t ht
  · by_cases e : j = i
    · subst e
      have e2 : o = p := Option.some.inj (ho.symm.trans hp)
      subst e2
      exact ⟨v, by rw [put_tmps, if_pos hd, if_pos (by rw [h.size]; exact hsz t hd)], hv⟩
    · obtain ⟨u, hu, hr⟩ := h.val j p t hj hp (by rwa [getD_set_ne false (fun e' => e e'.symm)] at hl) hd
      exact ⟨u, by rw [put_tmps, if_neg (fun hd' => hok.dst j p t hj hp e hd' hd)]; exact hu, hst j p hj hp _ _ _ hb hr⟩

theorem readyG_some {listed : Array Bool} (hn : n ≤ l.length) (hsz : listed.size = l.length) (hok : ∀ i o, i < n → l[i]? = some o → OkG l n i o) (i : Nat) : i < n → listed.getD i true = false → Region.ready .any l.toArray listed ≠ [] := by
  induction i using Nat.strongRecOn with
  | ind i ih =>
    intro hi hun
    obtain ⟨o, ho⟩ : ∃ o, l[i]? = some o := ⟨l[i], List.getElem?_eq_getElem (by omega)⟩
    by_cases hall : ∀ e, e ∈ o.after → Region.binds .any e = true → listed.getD e.on false = true
    · intro h0
      have : i ∈ Region.ready .any l.toArray listed := mem_ready.2 ⟨hun, o, by simpa using ho, hall⟩
      rw [h0] at this
      cases this
    · have hex : ∃ e, e ∈ o.after ∧ Region.binds .any e = true ∧ listed.getD e.on false = false := by
        refine Classical.byContradiction fun hno => hall fun e he hb => ?_
        cases hl : listed.getD e.on false with
        | true => rfl
        | false => exact absurd ⟨e, he, hb, hl⟩ hno
      obtain ⟨e, he, hb, hl⟩ := hex
      have hlt := (hok i o hi ho).back e he hb
      exact ih e.on hlt (by omega) (getD_in (by omega) hl)

/-- All that the predicates tell at the end is what stands there. -/
theorem softEnd_useG {Rs : Nat → Prd} {K : Act → World → Prop} {a : Act} {w : World} (hn : n ≤ l.length) (_hok : ∀ i o, i < n → l[i]? = some o → OkG l n i o)
    (hv : ∀ i o t, i < n → l[i]? = some o → o.dst = some t → ∃ v, a.tmps[t]? = some v ∧ Rs i w v) (hun : ∀ i o, i < n → l[i]? = some o → o.dst = none → Rs i w undef) :
    ∀ (d k : Nat) (b : Act), k + d = n → b.tmps.size = a.tmps.size → b.defers = a.defers → (∀ t, (∀ j p, k ≤ j → j < n → l[j]? = some p → p.dst ≠ some t) → b.tmps[t]? = a.tmps[t]?) →
      softEnd K w ((envOf l Rs n).reverse.drop k) b → K a w := by
  have hlen : ∀ m, (envOf l Rs m).length = m := by
    intro m; induction m with
    | zero => rfl
    | succ m ih => show (envOf l Rs m).length + 1 = _; rw [ih]
  have hget : ∀ m k, k < m → (envOf l Rs m).reverse[k]? = some ((l[k]?).bind (·.dst), Rs k) := by
    intro m
    induction m with
    | zero => intro k hk; exact absurd hk (Nat.not_lt_zero k)
    | succ m ih =>
      intro k hk
      show (((l[m]?).bind (·.dst), Rs m) :: envOf l Rs m).reverse[k]? = _
      rw [List.reverse_cons]
      by_cases e : k = m
      · subst e
        rw [List.getElem?_append_right (by simp [hlen])]
        simp [hlen]
      · rw [List.getElem?_append_left (by simp [hlen]; omega)]
        exact ih k (by omega)
  intro d
  induction d with
  | zero =>
    intro k b hk h1 h2 h3 h
    rw [List.drop_eq_nil_of_le (by simp [hlen]; omega)] at h
    have e : a = b := act_ext h2.symm fun t => (h3 t fun j p h4 h5 => absurd h5 (by omega)).symm
    rw [e]; exact h
  | succ d ih =>
    intro k b hk h1 h2 h3 h
    obtain ⟨o, ho⟩ : ∃ o, l[k]? = some o := ⟨l[k], List.getElem?_eq_getElem (by omega)⟩
    cases hs : o.dst with
    | none =>
      have hdrop : (envOf l Rs n).reverse.drop k = (none, Rs k) :: (envOf l Rs n).reverse.drop (k + 1) := by
        have hlt : k < (envOf l Rs n).reverse.length := by simp [hlen]; omega
        rw [List.drop_eq_getElem_cons hlt]
        congr 1
        have h4 := hget n k (by omega)
        rw [List.getElem?_eq_getElem hlt, ho] at h4
        have h5 := Option.some.inj h4
        rw [h5]; simp [hs]
      rw [hdrop] at h
      have h6 := h undef (hun k o (by omega) ho hs)
      refine ih (k + 1) (b.put none undef) (by omega) h1 h2 (fun t ht => h3 t fun j p h4 h5 hp hd => ?_) h6
      by_cases ejk : j = k
      · subst ejk
        have e2 : o = p := Option.some.inj (ho.symm.trans hp)
        subst e2
        rw [hs] at hd; cases hd
      · exact ht j p (by omega) h5 hp hd
    | some s =>
    obtain ⟨v, hva, hvr⟩ := hv k o s (by omega) ho hs
    have hdrop : (envOf l Rs n).reverse.drop k = (some s, Rs k) :: (envOf l Rs n).reverse.drop (k + 1) := by
      have hlt : k < (envOf l Rs n).reverse.length := by simp [hlen]; omega
      rw [List.drop_eq_getElem_cons hlt]
      congr 1
      have h4 := hget n k (by omega)
      rw [List.getElem?_eq_getElem hlt, ho] at h4
      have h5 := Option.some.inj h4
      rw [h5]; simp [hs]
    rw [hdrop] at h
    refine ih (k + 1) (b.put (some s) v) (by omega) (by rw [put_size, h1]) (by rw [put_defers, h2]) (fun t ht => ?_) (h v hvr)
    rw [put_tmps]
    by_cases e : s = t
    · subst e
      have hlt : s < a.tmps.size := (Array.getElem?_eq_some_iff.1 hva).1
      rw [if_pos rfl, if_pos (by rw [h1]; exact hlt), hva]
    · rw [if_neg (fun h => e (Option.some.inj h))]
      refine h3 t fun j p h4 h5 hp hd => ?_
      by_cases ejk : j = k
      · subst ejk
        have e2 : o = p := Option.some.inj (ho.symm.trans hp)
        subst e2
        rw [hs] at hd
        exact e (Option.some.inj hd)
      · exact ht j p (by omega) h5 hp hd

theorem softG_any {Q : Exit → Act → World → Prop} {Rs : Nat → Prd} {a0 : Act} (hn : n < l.length) (hsink : Region.sinkB .any l.toArray n = true) (hchain : Region.chainB .any l.toArray n = true)
    (hseq : Region.seqB .any l.toArray (l.length - n) n ((List.replicate n true ++ List.replicate (l.length - n) false).toArray) = true)
    (hok : ∀ i o, i < n → l[i]? = some o → OkG l n i o) (hT : ∀ i o t, i < n → l[i]? = some o → o.dst = some t → t < a0.tmps.size)
    (hs : ∀ i o, i < n → l[i]? = some o → Stb (Rs i) ∧ SoftOpG P B w0 ws L l a0 (envOf l Rs i) o (Rs i))
    (hE : ∀ w, Rws B w0 w L → Below ws.heap.size ws w → softEnd (fun a w => wpList P l.toArray Q (l.drop n) a w) w (envOf l Rs n).reverse a0) :
    ∀ (f : Nat) (listed : Array Bool) (a : Act) (w : World), HeadInv .any l.toArray n listed → SimG B w0 ws L l n Rs a0 listed a w → cntB (fun i => !listed.getD i true) n = f →
      wpAny P .any l.toArray Q (f + (l.length - n)) listed a w := by
  intro f
  induction f with
  | zero =>
    intro listed a w inv sim hc
    have hall : ∀ i, i < n → listed.getD i true = true := fun i hi => by
      have := cntB_zero n hc i hi
      simpa using this
    have hall' : ∀ i, i < n → listed.getD i false = true := fun i hi => by
      have h1 := hall i hi
      have hlt : i < listed.size := by rw [inv.size]; simp; omega
      simp [hlt] at h1 ⊢; exact h1
    have hl : listed = (List.replicate n true ++ List.replicate (l.length - n) false).toArray := by
      have hsz := inv.size
      simp only [List.size_toArray] at hsz
      apply Array.ext
      · simp; omega
      · intro i h1 h2
        simp only [List.getElem_toArray]
        by_cases hi : i < n
        · have h3 := hall i hi
          simp only [Array.getD_eq_getD_getElem?, Array.getElem?_eq_getElem h1, Option.getD_some] at h3
          rw [h3, List.getElem_append_left (by simpa using hi)]
          simp
        · have h3 := inv.tail i (by omega) (by simp; omega)
          simp only [Array.getD_eq_getD_getElem?, Array.getElem?_eq_getElem h1, Option.getD_some] at h3
          rw [h3, List.getElem_append_right (by simpa using hi)]
          simp
    have H : wpList P l.toArray Q (l.drop n) a w :=
      softEnd_useG (K := fun a w => wpList P l.toArray Q (l.drop n) a w) (Nat.le_of_lt hn) hok (fun i o t hi ho hd => sim.val i o t hi ho (hall' i hi) hd) (fun i o hi ho hd => by
        rcases (hs i o hi ho).2 with ⟨h1, _⟩ | ⟨_, h1⟩ | ⟨_, h1⟩
        · have := h1.1; rw [hd] at this; cases this
        · exact h1 w
        · exact h1 w) n 0 a0 (by omega) sim.size.symm sim.defers.symm
        (fun t ht => (sim.keep t fun i o hi ho => ht i o (Nat.zero_le _) hi ho).symm) (by simpa using hE w sim.rws sim.bel)
    have := wpAny_of_seq (md := .any) (Q' := Q) (ops := l.toArray) (l.drop n) n listed a w (fun j => by simp [List.getElem?_drop]) (by rw [hl]; simpa using hseq) H
    simpa using this
  | succ f ih =>
    intro listed a w inv sim hc
    have hsz : listed.size = l.length := by simpa using inv.size
    rw [show f + 1 + (l.length - n) = (f + (l.length - n)) + 1 by omega]
    obtain ⟨i0, hi0, hun0⟩ := cntB_all n (by rw [hc]; omega)
    have hun0 : listed.getD i0 true = false := by simpa using hun0
    refine ⟨fun h0 => absurd h0 (readyG_some (Nat.le_of_lt hn) hsz hok i0 hi0 hun0), fun i hi => ?_⟩
    obtain ⟨hun, o, ho, hall⟩ := mem_ready.1 hi
    have ho' : l[i]? = some o := by simpa using ho
    have hin : i < n := by
      rcases Nat.lt_or_ge i n with h | h
      · exact h
      · exact absurd hi (tail_waits hsink hchain (by simpa using hn) inv (n - i0) i0 rfl hi0 hun0 i h)
    have hoki := hok i o hin ho'
    have hcnt : cntB (fun j => !(listed.setIfInBounds i true).getD j true) n = f := by
      have hlt : i < listed.size := by rw [hsz]; omega
      have := cntB_set (p := fun j => !listed.getD j true) (q := fun j => !(listed.setIfInBounds i true).getD j true) (i := i) (by simp only [hun]; rfl) (by simp [hlt]) (fun j hj => by simp only [getD_set_ne true (fun e => hj e.symm)]) n hin
      omega
    have inv' := inv.set hi hin
    obtain ⟨hst, hop⟩ := hs i o hin ho'
    have hat : ∀ x, x ∈ o.op.operands → AtE a0 (envOf l Rs i) w x (a.eval x) := by
      intro x hx
      cases x with
      | tmp t =>
        show (match look (envOf l Rs i) t with
          | some R => R w (a.eval (.tmp t))
          | none => a.eval (.tmp t) = a0.tmps.getD t undef)
        by_cases hd : ∃ j p, j < n ∧ l[j]? = some p ∧ p.dst = some t
        · obtain ⟨j, p, hj, hp, hd⟩ := hd
          obtain ⟨hji, hwait⟩ := hoki.use j p t hj hp hx hd
          rw [(look_envG (Rs := Rs) hok (Nat.le_of_lt hn) i (Nat.le_of_lt hin)).2 j p t hji hp hd]
          obtain ⟨o2, ho2, e, he, hb, hon⟩ := Region.waitsFor_spec hwait
          have e2 : o = o2 := Option.some.inj (ho.symm.trans ho2)
          subst e2
          have hlj := hall e he hb
          rw [hon] at hlj
          obtain ⟨v, hva, hvr⟩ := sim.val j p t hj hp hlj hd
          show Rs j w (a.tmps.getD t undef)
          rw [Array.getD_eq_getD_getElem?, hva]
          exact hvr
        · have hno : ∀ j p, j < n → l[j]? = some p → p.dst ≠ some t := fun j p hj hp hd' => hd ⟨j, p, hj, hp, hd'⟩
          rw [(look_envG (Rs := Rs) hok (Nat.le_of_lt hn) i (Nat.le_of_lt hin)).1 t fun j p hj hp => hno j p (by omega) hp]
          show a.tmps.getD t undef = _
          rw [Array.getD_eq_getD_getElem?, Array.getD_eq_getD_getElem?, sim.keep t hno]
      | const v => rfl
      | global g => rfl
      | func f => rfl
    have hguard : ∀ g want, o.guard = some (g, want) → ∀ tg b, (l[g]?).bind (·.dst) = some tg → (∀ w v, Below ws.heap.size ws w → AtE a0 (envOf l Rs i) w (.tmp tg) v → v = .bool b) → yielded l.toArray a.tmps g = some b := by
      intro g want hgw tg b htg hv
      obtain ⟨hgi, hwait⟩ := hoki.guard g want hgw
      obtain ⟨p, hp⟩ : ∃ p, l[g]? = some p := ⟨l[g]'(by omega), List.getElem?_eq_getElem (by omega)⟩
      rw [hp] at htg
      have hd : p.dst = some tg := htg
      obtain ⟨o2, ho2, e, he, hb, hon⟩ := Region.waitsFor_spec hwait
      have e2 : o = o2 := Option.some.inj (ho.symm.trans ho2)
      subst e2
      have hlj := hall e he hb
      rw [hon] at hlj
      obtain ⟨u, hu, hr⟩ := sim.val g p tg (by omega) hp hlj hd
      have hat2 : AtE a0 (envOf l Rs i) w (.tmp tg) u := by
        show (match look (envOf l Rs i) tg with
          | some R => R w u
          | none => u = a0.tmps.getD tg undef)
        rw [(look_envG (Rs := Rs) hok (Nat.le_of_lt hn) i (Nat.le_of_lt hin)).2 g p tg hgi hp hd]
        exact hr
      have hub := hv w u sim.bel hat2
      unfold yielded
      rw [show l.toArray[g]? = some p by simpa using hp]
      simp only [Option.bind_some, hd, hu, hub]
    have hstall : ∀ i o, i < n → l[i]? = some o → Stb (Rs i) := fun i o hi ho => (hs i o hi ho).1
    unfold wpOp
    rw [ho]
    rcases hop with ⟨⟨_, hlive⟩, hop⟩ | ⟨hdead, hun⟩ | ⟨⟨hsg, hsd, hst2⟩, hun⟩
    · have hsoft := hop w a.eval sim.rws sim.bel hat
      have hw : Region.wanted o (yielded l.toArray a.tmps) = true := by
        unfold Region.wanted
        rcases hlive with hlive | hlive
        · rw [hlive]
        · unfold GuardIs at hlive
          cases hg : o.guard with
          | none => rfl
          | some p =>
            obtain ⟨g, want⟩ := p
            rw [hg] at hlive
            obtain ⟨tg, b, htg, rfl, hv⟩ := hlive
            show (yielded l.toArray a.tmps g == some b) = true
            rw [hguard g b hg tg b htg hv]; simp
      simp only [hw, if_true]
      refine Or.inl ?_
      unfold Oper.wp
      generalize (execOp a.eval o).run P w = r at hsoft
      cases r with
      | halt x w' => exact absurd hsoft id
      | ok nx w' =>
        cases nx with
        | value u =>
          obtain ⟨e1, e2⟩ := hsoft
          exact ih _ _ _ inv' (sim.next hin ho' hoki hstall (fun t ht => hT i o t hin ho' ht) e1 e2) hcnt
        | enter fid args =>
          obtain ⟨e1, hcall⟩ := hsoft
          subst e1
          refine hcall.mono fun e w'' ⟨v, he, hr, hb⟩ => ?_
          subst he
          exact ih _ _ _ inv' (sim.next hin ho' hoki hstall (fun t ht => hT i o t hin ho' ht) hr hb) hcnt
        | _ => exact absurd hsoft id
    · have hw : Region.wanted o (yielded l.toArray a.tmps) = false := by
        unfold Region.wanted
        unfold Dead GuardIs at hdead
        cases hg : o.guard with
        | none => rw [hg] at hdead; exact absurd hdead id
        | some p =>
          obtain ⟨g, want⟩ := p
          rw [hg] at hdead
          obtain ⟨tg, b, htg, hne, hv⟩ := hdead
          show (yielded l.toArray a.tmps g == some want) = false
          rw [hguard g want hg tg b htg hv]
          simpa using hne
      simp only [hw, Bool.false_eq_true, if_false]
      exact ih _ _ _ inv' (sim.next hin ho' hoki hstall (fun t ht => hT i o t hin ho' ht) (hun w) (Below.refl _ _)) hcnt
    · have hw : Region.wanted o (yielded l.toArray a.tmps) = true := by
        unfold Region.wanted
        rw [hsg]
      simp only [hw, if_true]
      refine Or.inl ?_
      unfold Oper.wp
      rw [hst2 w a.eval sim.rws sim.bel hat]
      have := sim.next (v := undef) hin ho' hoki hstall (fun t ht => hT i o t hin ho' ht) (hun w) (Below.refl _ _)
      exact ih _ _ _ inv' this hcnt

/-- One walk in the order of the text serves every order. -/
theorem wp_region_softG {id : Nat} {Q : Exit → Act → World → Prop} {a : Act} {w : World} (n : Nat) (hm : P.follows .mixedOrders = true) (hB : sideG n l = true) (hT : ((l.take n).all fun o => match o.dst with | some t => decide (t < a.tmps.size) | none => true) = true) (hR : Rws B w0 w L)
    (h : softG P B w0 w L l a (fun a w => wpList P l.toArray Q (l.drop n) a w) n l []) : (Code.region id l.toArray true).wp P Q a w := by
  unfold sideG at hB
  simp only [Bool.and_eq_true, decide_eq_true_eq] at hB
  obtain ⟨⟨⟨⟨hn, hsink⟩, hchain⟩, hokB⟩, hseq⟩ := hB
  have hok : ∀ i o, i < n → l[i]? = some o → OkG l n i o := fun i o hi ho => okG_spec ho (List.all_eq_true.1 hokB i (List.mem_range.2 hi))
  obtain ⟨Rs, _, hs, hE⟩ := softG_spec l n 0 l (fun _ _ _ => True) (Nat.le_of_lt hn) (fun j => by rw [Nat.zero_add]) h
  have inv0 : HeadInv .any l.toArray n (Array.replicate l.toArray.size false) :=
    ⟨by simp, fun j oj _ hl => (by rw [getD_replicate_false] at hl; cases hl), fun t _ ht => getD_in (by simpa using ht) (getD_replicate_false _ _)⟩
  have sim0 : SimG B w0 w L l n Rs a (Array.replicate l.toArray.size false) a { w with drawn := w.drawn + 1 } :=
    ⟨rfl, rfl, fun _ _ => rfl, fun i _ _ _ _ hl => (by rw [getD_replicate_false] at hl; cases hl), hR.drew, (Below.refl _ _).drew⟩
  have hcn : cntB (fun i => !(Array.replicate l.toArray.size false).getD i true) n = n := by
    have key : ∀ m, m ≤ n → cntB (fun i => !(Array.replicate l.toArray.size false).getD i true) m = m := by
      intro m
      induction m with
      | zero => intro _; rfl
      | succ m ih =>
        intro hm
        have hlt : m < l.length := by omega
        simp only [cntB]
        rw [ih (by omega)]
        simp [hlt]
    exact key n (Nat.le_refl n)
  have hTn : ∀ i o t, i < n → l[i]? = some o → o.dst = some t → t < a.tmps.size := fun i o t hi ho hd => by
    have h1 := List.all_eq_true.1 hT o (List.mem_iff_getElem?.2 ⟨i, by rw [List.getElem?_take, if_pos hi]; exact ho⟩)
    rw [hd] at h1
    simpa using h1
  have := softG_any hn hsink hchain hseq hok hTn (fun i o hi ho => hs i o (Nat.zero_le _) (by omega) ho) (by rw [Nat.zero_add] at hE; exact hE) n _ a _ inv0 sim0 hcn
  refine wp_region_any hm ?_
  rw [show n + (l.length - n) = l.toArray.size by simp; omega] at this
  exact this

end
end Go.Proofs.YtipjkjcmceeaeaaGreatDoor
