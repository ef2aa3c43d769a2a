/- What http.read's walk wants: rows that stay, one's own that stays, lines one by one. -/
import Derived.Test.YtipjkjcmceeaeaaGreatDoorYChunks
import Derived.Test.YtipjkjcmceeaeaaGreatDoorYMeas
namespace Go.Proofs.YtipjkjcmceeaeaaGreatDoor
open Go.RowKit

/-- One's own stays where its blocks stay. -/
theorem own_old {w w' : World} {B n size : Nat} {e : TypeId} {v : Value} {xs : List Value} (ho : w.ownsRow B e size v n xs) (h : ∀ k, B ≤ k → k < w.heap.size → w'.heap[k]? = w.heap[k]?) : w'.ownsRow B e size v n xs := by
  obtain ⟨hl, h0 | ⟨g, cap, cur, rfl, hg, hh, r⟩⟩ := ho
  · exact ⟨hl, Or.inl h0⟩
  · exact ⟨hl, Or.inr ⟨g, cap, cur, rfl, hg, (h g hg (Array.getElem?_eq_some_iff.1 hh).1).trans hh, r⟩⟩
theorem own_nil (w : World) (B : Nat) (e : TypeId) (size : Nat) : w.ownsRow B e size (.slice none 0 0) 0 [] := ⟨by simp, Or.inl ⟨rfl, rfl⟩⟩
/-- Rows below a bound stay where only what lies above it changes. -/
theorem Rws.low {B0 B : Nat} {w0 w w' : World} {L : List (Nat × Array Value × TypeId)} (h : Rws B0 w0 w L) (hlt : ∀ x, x ∈ L → x.1 < B) (hB : B0 ≤ B) (hb : Below B w w') : Rws B0 w0 w' L :=
  ⟨h.below.trans (hb.mono hB), Nat.le_trans h.len hb.size, fun x hx => ⟨(h.row x hx).1, (hb.block _ (hlt x hx)).trans (h.row x hx).2⟩, h.nd⟩
section
variable {P : Program} {o : Oper} {a : Act} {Q : Exit → Act → World → Prop} {ops : Array Oper} {rest : List Oper} {B : Nat} {w0 w : World} {L L' : List (Nat × Array Value × TypeId)}
/-- One cell of a row; all other blocks are as they were. -/
theorem wS_storec {ty t : TypeId} {x y : Operand} {g k : Nat} {v : Value} {cs new : Array Value} (hgd : o.guard = none) (ho : o.op = .store ty x y) (h : Rws B w0 w L) (hx : a.eval x = .pointer (some ⟨g, k, none⟩)) (hy : a.eval y = v) (hm : Pick L (g, cs, t) L')
    (hv : v.cells = #[v]) (hi : (P.info? ty).map (·.size) = some 1) (hk : k < cs.size) (h1 : v.oneCell' = true) (hn : cs.setIfInBounds k v = new)
    (hK : ∀ w', Rws B w0 w' ((g, new, t) :: L') → (∀ k, k ≠ g → w'.heap[k]? = w.heap[k]?) → w'.heap.size = w.heap.size → wpList P ops Q rest (a.put o.dst undef) w') : wpList P ops Q (o :: rest) a w := by
  have hs := run_storeCells_at P g k t [v] 0 cs w (h.row _ hm.mem).2 (by simpa using Nat.succ_le_of_lt hk) (by simpa using h1)
  have e0 : (cs.toList.take k ++ [v] ++ cs.toList.drop (k + 1)).toArray = new := by
    rw [← hn]
    apply Array.ext'
    simp only [Array.toList_setIfInBounds]
    have e : cs.toList.set k v = cs.toList.take k ++ v :: cs.toList.drop (k + 1) := List.set_eq_take_append_cons_drop .. ▸ (by rw [if_pos (by simpa using hk)])
    rw [e]
    simp
  have hr : (Instr.storeAt ty (.pointer (some ⟨g, k, none⟩)) v).run P w = .ok () (w.setRow g new) := by
    cases hq : P.info? ty with
    | none => simp [hq] at hi
    | some i =>
      have : i.size = 1 := by simpa [hq] using hi
      simp only [Nat.add_zero, List.length_cons, List.length_nil, Nat.zero_add, e0] at hs
      simp [Instr.storeAt, Instr.sureAddr, storeVar, sizeOf, typeInfo, Sem.run_bind, hq, this, hv, hs]
  refine wpList_plain hgd fun K hKK => ?_
  unfold Oper.wp execOp
  simp only [ho, hx, hy]
  rw [Sem.run_bind, hr]
  refine hKK _ _ (hK _ (h.set hm new) (fun k hk => ?_) (size_setRow _ _ _))
  simp only [World.setRow, Array.getElem?_modify]
  rw [if_neg (fun e => hk e.symm)]
end
theorem readL_bad {l : Bs} {r : List Bs} {hs : List Hd} {b : Option Nat} {k : Nat} (h : lineH l = none) : readL (l :: r) hs b k = none := by
  show (match lineH l with | none => none | some h => _) = _
  rw [h]
theorem readL_len0 {l : Bs} {r : List Bs} {hs : List Hd} {b : Option Nat} {k : Nat} {x : Hd} (h : lineH l = some x) (h2 : x.1 = wCl ∨ x.1 = wTe) (h3 : lenF x = none) : readL (l :: r) hs b k = none := by
  show (match lineH l with | none => none | some h => _) = _
  rw [h]
  show (if x.1 = wCl ∨ x.1 = wTe then _ else _) = _
  rw [if_pos h2, h3]
theorem readL_len {l : Bs} {r : List Bs} {hs : List Hd} {b : Option Nat} {k : Nat} {x : Hd} {b' : Option Nat} (h : lineH l = some x) (h2 : x.1 = wCl ∨ x.1 = wTe) (h3 : lenF x = some b') : readL (l :: r) hs b k = readL r hs b' (k + 1) := by
  show (match lineH l with | none => none | some h => _) = _
  rw [h]
  show (if x.1 = wCl ∨ x.1 = wTe then _ else _) = _
  rw [if_pos h2, h3]
theorem readL_head {l : Bs} {r : List Bs} {hs : List Hd} {b : Option Nat} {k : Nat} {x : Hd} (h : lineH l = some x) (h2 : ¬ (x.1 = wCl ∨ x.1 = wTe)) : readL (l :: r) hs b k = readL r (hs ++ [x]) b k := by
  show (match lineH l with | none => none | some h => _) = _
  rw [h]
  show (if x.1 = wCl ∨ x.1 = wTe then _ else _) = _
  rw [if_neg h2]
theorem lineH_nc {l : Bs} (h : cutA [58] l = none) : lineH l = none := by
  unfold lineH
  rw [h]
theorem lineH_bad {l n v : Bs} (h : cutA [58] l = some (n, v)) (h2 : ofB 1 64 nmC n = false) : lineH l = none := by
  unfold lineH
  rw [h]
  show (if ofB 1 64 nmC n = true then _ else _) = _
  rw [h2]; rfl
theorem lineH_ok {l n v : Bs} (h : cutA [58] l = some (n, v)) (h2 : ofB 1 64 nmC n = true) : lineH l = some (lowS n, trimS v) := by
  unfold lineH
  rw [h]
  show (if ofB 1 64 nmC n = true then _ else _) = _
  rw [h2]; rfl
theorem cutA_le {sep s a b : Bs} (h : cutA sep s = some (a, b)) : a.length ≤ s.length ∧ b.length ≤ s.length := by
  obtain ⟨e, _⟩ := cutA_some h
  rw [e]
  simp only [List.length_append]
  omega
/-- strings.Split lays one row. -/
theorem splitR_any (s sep : Bs) (hne : sep ≠ []) (hs : s.length < 4294967281) (w : World) (hg : Gw w) : Calls Tryz.prog 54 #[.string (bs s), .string (bs sep)] w fun e w' => e = .returned (.slice (some ⟨w.heap.size, 0, none⟩) (splitS sep s).length (splitS sep s).length) ∧ w' = w.alloc (.cells (StC (splitS sep s)).toArray 9) := by
  obtain ⟨m, hm⟩ := hg.most
  have h1 : 1 ≤ (bs sep).size := by
    rw [bs_size]
    exact List.length_pos_iff.2 hne
  refine (Tryz.strings_Split (bs s) (bs sep) m w (by rw [bs_size]; exact hs) hm h1).mono ?_
  rintro e w' ⟨rfl, rfl⟩
  have hd := Lib.splitB_data (bs sep) 0 (Lib.countB (bs s) (bs sep)) (bs s)
  have hlen := Lib.splitB_all (bs sep) h1 0 _ (bs s) rfl
  have hs2 : splitS sep s = (Lib.splitB (bs sep) 0 (Lib.countB (bs s) (bs sep)) (bs s)).map (·.data.toList) := hd.symm
  have hl2 : (splitS sep s).length = Lib.countB (bs s) (bs sep) + 1 := by rw [hs2, List.length_map, hlen]
  have hv : (Lib.splitB (bs sep) 0 (Lib.countB (bs s) (bs sep)) (bs s)).map Value.string = StC (splitS sep s) := by
    rw [hs2]
    unfold StC
    rw [List.map_map]
    refine List.map_congr_left fun x _ => ?_
    cases x
    simp [bs]
  rw [hv, hl2]
  exact ⟨rfl, rfl⟩
theorem splitK_le (sep : Bs) : ∀ (k : Nat) (s : Bs), (∀ x, x ∈ Lib.splitK sep 0 k s → x.length ≤ s.length) ∧ (Lib.splitK sep 0 k s).length ≤ k + 1 ∧ 1 ≤ (Lib.splitK sep 0 k s).length
  | 0, s => ⟨fun x hx => by
      have : x = s := by simpa [Lib.splitK] using hx
      rw [this]; exact Nat.le_refl _, Nat.le_refl _, Nat.le_refl _⟩
  | k + 1, s => by
    unfold Lib.splitK
    split
    · exact ⟨fun x hx => by
        have : x = s := by simpa using hx
        rw [this]; exact Nat.le_refl _, by simp, by simp⟩
    · obtain ⟨h1, h2, _⟩ := splitK_le sep k (s.drop ((Lib.index s sep).toNat + sep.length))
      refine ⟨fun x hx => ?_, by simp only [List.length_cons]; omega, by simp⟩
      rcases List.mem_cons.1 hx with rfl | hx
      · simp only [List.length_take]; omega
      · have := h1 x hx
        rw [List.length_drop] at this
        omega
theorem split_le {sep s : Bs} (hne : sep ≠ []) : (∀ x, x ∈ splitS sep s → x.length ≤ s.length) ∧ (splitS sep s).length ≤ s.length + 1 ∧ 1 ≤ (splitS sep s).length := by
  obtain ⟨h1, h2, h3⟩ := splitK_le sep (Lib.count s sep) s
  refine ⟨h1, ?_, h3⟩
  have hp : 1 ≤ (bs sep).size := by rw [bs_size]; exact List.length_pos_iff.2 hne
  have h4 := Lib.countB_mul_le (bs sep) hp (bs s).size (bs s) (Nat.le_refl _)
  rw [bs_size s] at h4
  have h5 : Lib.countB (bs s) (bs sep) ≤ Lib.countB (bs s) (bs sep) * (bs sep).size := Nat.le_mul_of_pos_right _ hp
  have h6 : (splitS sep s).length ≤ Lib.count s sep + 1 := h2
  have h7 : Lib.count s sep = Lib.countB (bs s) (bs sep) := rfl
  omega
theorem read_first {s l0 : Bs} {r : List Bs} (h : splitS CRLF s = l0 :: r) (hn : ¬ 33 < (l0 :: r).length) (hf : (splitS [32] l0).length ≠ 3) : readH s = .error 151 := by
  unfold readH
  rw [h, if_neg hn]
  show (match splitS [32] l0 with | [m, t, v] => _ | _ => _) = _
  match hq : splitS [32] l0, hf with
  | [], _ => rfl
  | [_], _ => rfl
  | [_, _], _ => rfl
  | [_, _, _], h => exact absurd rfl h
  | _ :: _ :: _ :: _ :: _, _ => rfl
theorem read_ver {s l0 m t v : Bs} {r : List Bs} (h : splitS CRLF s = l0 :: r) (hn : ¬ 33 < (l0 :: r).length) (hf : splitS [32] l0 = [m, t, v]) : readH s = if v = wHttp then readLines m t r else .error 151 := by
  unfold readH
  rw [h, if_neg hn]
  show (match splitS [32] l0 with | [m, t, v] => _ | _ => _) = _
  rw [hf]
theorem trim_le (l : Bs) : (trimS l).length ≤ l.length := by
  unfold trimS Lib.trimB Lib.trimRightB Lib.trimLeftB
  have h1 : ∀ (p : UInt8 → Bool) (l : Bs), (l.dropWhile p).length ≤ l.length := fun p l => (List.dropWhile_suffix p).length_le
  refine Nat.le_trans (h1 _ _) ?_
  rw [List.length_reverse]
  refine Nat.le_trans (h1 _ _) ?_
  rw [List.length_reverse]
  exact Nat.le_refl _
/-- Fields in a row that holds nothing else. -/
def LiesT (w : World) (hs : List Hd) (ad : Option Addr) : Prop := hs.length = 0 ∨ ∃ g cs, ad = some ⟨g, 0, none⟩ ∧ w.heap[g]? = some (.cells cs 52 (0, 0)) ∧ ∀ (j : Nat) u, (HdC hs)[j]? = some u → cs[j]? = some u
theorem lies_of_own {w : World} {B : Nat} {ad : Option Addr} {c : Nat} {hs : List Hd} (ho : OwnH B w (.slice ad hs.length c) hs) : LiesT w hs ad := by
  obtain ⟨hl, ⟨h0, h1⟩ | ⟨g, cap, cur, hv, hg, hh, hn, hcm, hcs, htk⟩⟩ := ho
  · exact Or.inl h1
  · simp only [Value.slice.injEq, true_and] at hv
    refine Or.inr ⟨g, cur, hv.1, hh, fun j u hj => ?_⟩
    rw [← htk, List.getElem?_take] at hj
    split at hj
    · simpa using hj
    · cases hj
theorem LiesT.old {w w' : World} {hs : List Hd} {ad : Option Addr} (h : LiesT w hs ad) (hf : ∀ k, k < w.heap.size → w'.heap[k]? = w.heap[k]?) : LiesT w' hs ad := by
  rcases h with h | ⟨g, cs, h1, h2, h3⟩
  · exact Or.inl h
  · exact Or.inr ⟨g, cs, h1, (hf g (Array.getElem?_eq_some_iff.1 h2).1).trans h2, h3⟩
theorem LiesT.row {w : World} {hs : List Hd} {ad : Option Addr} (h : LiesT w hs ad) (hne : hs.length ≠ 0) : ∃ g, ad = some ⟨g, 0, none⟩ ∧ RowC w (HdC hs) g 0 := by
  rcases h with h | ⟨g, cs, h1, h2, h3⟩
  · exact absurd h hne
  · refine ⟨g, h1, fun j u hj => ?_⟩
    simp only [World.cell?, h2, Nat.zero_add]
    simpa using h3 j u hj
theorem LiesT.slh {w : World} {hs : List Hd} {ad : Option Addr} {c : Nat} (h : LiesT w hs ad) (h1 : hs.length ≤ c) (h2 : c ≤ MX) : SlH w hs ad c := by
  refine ⟨h1, h2, ?_⟩
  by_cases h0 : hs.length = 0
  · have : hs = [] := List.eq_nil_of_length_eq_zero h0
    subst this
    exact ⟨0, 0, Or.inr ⟨rfl, rfl⟩, fun j u hj => by simp [HdC] at hj⟩
  · obtain ⟨g, h3, h4⟩ := h.row h0
    exact ⟨g, 0, Or.inl h3, h4⟩
/-- They stay where a block of another kind changes. -/
theorem LiesT.set {w w' : World} {hs : List Hd} {ad : Option Addr} {g : Nat} {cs : Array Value} {t : TypeId} {fz : Nat × Nat} (h : LiesT w hs ad) (hg : w.heap[g]? = some (.cells cs t fz)) (ht : t ≠ 52) (hf : ∀ k, k ≠ g → w'.heap[k]? = w.heap[k]?) : LiesT w' hs ad := by
  rcases h with h | ⟨b, cs', h1, h2, h3⟩
  · exact Or.inl h
  · refine Or.inr ⟨b, cs', h1, (hf b fun e => ?_).trans h2, h3⟩
    rw [e, hg] at h2
    simp only [Option.some.injEq, Obj.cells.injEq] at h2
    exact ht h2.2.1
end Go.Proofs.YtipjkjcmceeaeaaGreatDoor
