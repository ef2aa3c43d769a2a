/- Plain: a policy's text. -/
import Derived.Test.YthpagppipifgeaaGreatDoorLParseS
namespace Go.Proofs.YthpagppipifgeaaGreatDoor
open Go.RowKit

def sAndB : List UInt8 := [32, 97, 110, 100, 32]
def sOrB : List UInt8 := [32, 111, 114, 32]
def sNotB : List UInt8 := [110, 111, 116, 32]
def quoteC (c : UInt8) : List UInt8 := if c = 34 then [92, 34] else if c = 92 then [92, 92] else [c]
def quoteL (l : List UInt8) : List UInt8 := l.flatMap quoteC
def looksL (o : Int) (n : List UInt8) : List UInt8 :=
  (if o = 0 then sMethod else if o = 1 then sPath else if o = 2 then sClaim ++ [46] else sCert ++ [46]) ++ n
def opL (k : Int) : List UInt8 := if k = 4 then sIs else if k = 5 then sBegins else sHas
def wrapT (pk k : Int) (t : List UInt8) : List UInt8 := if k = 3 ∨ (k = 2 ∧ pk ≠ 3) then [40] ++ t ++ [41] else t
def textN (k o : Int) (n t : ByteArray) (l : List (List UInt8)) : List UInt8 :=
  if k = 0 then sAlways else if k = 1 then sNotB ++ l.headD [] else if k = 2 then Lib.join l sAndB else if k = 3 then Lib.join l sOrB
  else looksL o n.data.toList ++ [32] ++ opL k ++ [32, 34] ++ quoteL t.data.toList ++ [34]
def Fo.txs (pk : Int) : Fo → List (List UInt8)
  | .nil => []
  | .cons k o n t kids nx => wrapT pk k (textN k o n t (kids.txs k)) :: nx.txs pk
def textP (k o : Int) (n t : ByteArray) (F : Fo) : List UInt8 := textN k o n t (F.txs k)
/-- The nodes. -/
def Fo.cnt : Fo → Nat
  | .nil => 0
  | .cons _ _ _ _ kids nx => kids.cnt + nx.cnt + 1
theorem Fo.txs_len (pk : Int) (F : Fo) : (F.txs pk).length = F.len := by
  induction F with
  | nil => rfl
  | cons k o n t kids nx _ ih => simp only [Fo.txs, Fo.len, List.length_cons]; omega
theorem Fo.len_cnt (F : Fo) : F.len ≤ F.cnt := by
  induction F with
  | nil => exact Nat.le_refl _
  | cons k o n t kids nx _ ih => simp only [Fo.cnt, Fo.len]; omega
theorem join_le (l : List (List UInt8)) (sep : List UInt8) : (Lib.join l sep).length ≤ (l.map List.length).sum + l.length * sep.length := by
  induction l with
  | nil => simp [Lib.join]
  | cons x r ih =>
    cases r with
    | nil => simp [Lib.join]
    | cons y r' =>
      have : Lib.join (x :: y :: r') sep = x ++ sep ++ Lib.join (y :: r') sep := by simp [Lib.join]
      rw [this]
      simp only [List.length_append, List.map_cons, List.sum_cons, List.length_cons] at ih ⊢
      have e : (r'.length + 1 + 1) * sep.length = (r'.length + 1) * sep.length + sep.length := Nat.succ_mul _ _
      omega
theorem quote_le (l : List UInt8) : (quoteL l).length ≤ 2 * l.length := by
  induction l with
  | nil => simp [quoteL]
  | cons x r ih =>
    have : quoteL (x :: r) = quoteC x ++ quoteL r := rfl
    rw [this]
    have h : (quoteC x).length ≤ 2 := by
      unfold quoteC
      split
      · exact Nat.le_refl 2
      · split
        · exact Nat.le_refl 2
        · exact Nat.le_succ 1
    simp only [List.length_append, List.length_cons]; omega
theorem node_sizes {k o : Int} {n t : ByteArray} {l : Nat} {m : Bool} (h : nodeB k o n t l m = true) : (k = 0 ∨ k = 1 ∨ k = 2 ∨ k = 3) ∨ (n.size ≤ 32 ∧ t.size ≤ 64) := by
  unfold nodeB at h
  split at h
  · omega
  · split at h
    · omega
    · split at h
      · omega
      · split at h
        · right
          simp only [Bool.and_eq_true] at h
          obtain ⟨⟨⟨⟨_, _⟩, _⟩, hn⟩, ht⟩ := h
          refine ⟨?_, lit_len ht⟩
          split at hn
          · unfold nameB at hn
            simp only [Bool.and_eq_true, decide_eq_true_eq] at hn
            exact hn.1.2
          · have hn := of_decide_eq_true hn
            rw [dl] at hn
            have : n.data.toList.length = n.size := by simp
            rw [hn] at this
            simp at this
            omega
        · cases h
theorem looks_le (o : Int) (n : List UInt8) : (looksL o n).length ≤ 6 + n.length := by
  unfold looksL
  rw [List.length_append]
  split
  · exact Nat.le_refl _
  · split
    · simp [sPath]
    · split
      · simp [sClaim]
      · simp [sCert]
theorem op_le (k : Int) : (opL k).length ≤ 6 := by
  unfold opL
  split
  · simp [sIs]
  · split
    · simp [sBegins]
    · simp [sHas]
theorem may_nil {k o : Int} {n t : ByteArray} {F : Fo} (h : mayP k o n t F = true) : F.may = true ∨ F = .nil := by
  cases hm : F.may with
  | true => exact Or.inl rfl
  | false =>
    right
    unfold mayP nodeB at h
    rw [hm] at h
    have : F.len = 0 := by
      split at h
      · simp only [Bool.and_eq_true, decide_eq_true_eq] at h; exact h.2
      · split at h
        · simp at h
        · split at h
          · simp at h
          · split at h
            · simp only [Bool.and_eq_true, decide_eq_true_eq] at h; exact h.1.1.1.1
            · cases h
    cases F with | nil => rfl | cons => simp [Fo.len] at this
theorem textN_le {k o : Int} {n t : ByteArray} {l : Nat} {m : Bool} (h : nodeB k o n t l m = true) (L : List (List UInt8)) : (textN k o n t L).length ≤ 190 + (L.map List.length).sum + L.length * 5 := by
  have hj := join_le L sAndB
  have ho := join_le L sOrB
  have e1 : sAndB.length = 5 := rfl
  have e2 : sOrB.length = 4 := rfl
  rw [e1] at hj
  rw [e2] at ho
  unfold textN
  split
  · simp [sAlways]; omega
  · split
    · rw [List.length_append]
      have : sNotB.length = 4 := rfl
      cases L with
      | nil => simp only [List.headD_nil, List.length_nil]; omega
      | cons x r => simp only [List.headD_cons, List.map_cons, List.sum_cons]; omega
    · split
      · omega
      · split
        · have : L.length * 4 ≤ L.length * 5 := Nat.mul_le_mul_left _ (by omega)
          omega
        · next h0 h1 h2 h3 =>
          have hs : n.size ≤ 32 ∧ t.size ≤ 64 := by
            rcases node_sizes h with h4 | h4
            · omega
            · exact h4
          have hl := looks_le o n.data.toList
          have hq := quote_le t.data.toList
          have hp := op_le k
          have z1 : n.data.toList.length = n.size := by simp
          have z2 : t.data.toList.length = t.size := by simp
          simp only [List.length_append, List.length_cons, List.length_nil]
          omega
theorem txs_le (pk : Int) (F : Fo) (h : F.may = true) : ((F.txs pk).map List.length).sum + F.len * 5 ≤ 210 * F.cnt := by
  induction F generalizing pk with
  | nil => simp [Fo.txs, Fo.len, Fo.cnt]
  | cons k o n t kids nx ih1 ih2 =>
    simp only [Fo.may, Bool.and_eq_true] at h
    have h2 := ih2 pk h.2
    have ht := textN_le h.1 (kids.txs k)
    rw [Fo.txs_len] at ht
    have hw : (wrapT pk k (textN k o n t (kids.txs k))).length ≤ (textN k o n t (kids.txs k)).length + 2 := by
      unfold wrapT
      split
      · simp
      · omega
    simp only [Fo.txs, List.map_cons, List.sum_cons, Fo.len, Fo.cnt]
    cases hm : kids.may with
    | true =>
      have h1 := ih1 k hm
      omega
    | false =>
      have hkl : kids.len = 0 := by
        have h3 := h.1
        rw [hm] at h3
        unfold nodeB at h3
        split at h3
        · simp only [Bool.and_eq_true, decide_eq_true_eq] at h3; exact h3.2
        · split at h3
          · simp at h3
          · split at h3
            · simp at h3
            · split at h3
              · simp only [Bool.and_eq_true, decide_eq_true_eq] at h3; exact h3.1.1.1.1
              · cases h3
      have hkn : kids = .nil := by cases kids with | nil => rfl | cons => simp [Fo.len] at hkl
      rw [hkn] at hm
      cases hm
end Go.Proofs.YthpagppipifgeaaGreatDoor
