/- PolicyBlind: two lists of facts that grow. -/
import Derived.Test.YthpagppipifgeaaGreatDoorZLBlindR
import Derived.Test.YthpagppipifgeaaGreatDoorZLTurn
namespace Go.Proofs.YthpagppipifgeaaGreatDoor
open Go.RowKit

/-- A list of facts as cells. -/
def FC (w : World) : List Fact → List Value → Prop
  | [], xs => xs = []
  | x :: r, xs => ∃ ad c ys, xs = .string x.1 :: .slice ad x.2.length c :: ys ∧ SlS w x.2 ad c ∧ FC w r ys
theorem FC.app {w : World} {l m : List Fact} {xs ys : List Value} (h : FC w l xs) (g : FC w m ys) : FC w (l ++ m) (xs ++ ys) := by
  induction l generalizing xs with
  | nil => have : xs = [] := h; subst this; exact g
  | cons x r ih => obtain ⟨ad, c, zs, rfl, h1, h2⟩ := h; exact ⟨ad, c, zs ++ ys, rfl, h1, ih h2⟩
theorem FC.one {w : World} {t : List ByteArray} {ad : Option Addr} {c : Nat} (n : ByteArray) (h : SlS w t ad c) : FC w [(n, t)] [.string n, .slice ad t.length c] := ⟨ad, c, [], rfl, h, rfl⟩
theorem FC.cells {w : World} {l : List Fact} {xs : List Value} (h : FC w l xs) : xs.length = l.length * 2 ∧ ∀ u ∈ xs, u.oneCell' = true := by
  induction l generalizing xs with
  | nil => have : xs = [] := h; subst this; exact ⟨rfl, fun u hu => by simp at hu⟩
  | cons x r ih =>
    obtain ⟨ad, c, zs, rfl, _, h2⟩ := h
    obtain ⟨e, g⟩ := ih h2
    refine ⟨by simp only [List.length_cons, e]; omega, fun u hu => ?_⟩
    simp only [List.mem_cons] at hu
    rcases hu with rfl | rfl | hu
    · rfl
    · rfl
    · exact g u hu
theorem FC.row {w w' : World} (hb : Below w.heap.size w w') {l : List Fact} : ∀ {xs : List Value} {b f : Nat}, FC w l xs → (∀ j u, xs[j]? = some u → w'.cell? ⟨b, f + j, none⟩ = some u) → RowX w' l b f := by
  induction l with
  | nil => exact fun _ _ => trivial
  | cons x r ih =>
    intro xs b f h hc
    obtain ⟨ad, c, ys, rfl, h1, h2⟩ := h
    refine ⟨⟨ad, c, hc 0 _ rfl, hc 1 _ rfl, h1.below hb (Nat.le_refl _)⟩, ih h2 (fun j u hj => ?_)⟩
    rw [show f + 2 + j = f + (j + 2) by omega]
    exact hc (j + 2) u hj
theorem FC.of_row {w : World} {l : List Fact} : ∀ {b f : Nat}, RowX w l b f → ∃ xs, FC w l xs ∧ ∀ j u, xs[j]? = some u → w.cell? ⟨b, f + j, none⟩ = some u := by
  induction l with
  | nil => exact fun _ => ⟨[], rfl, fun j u hj => by simp at hj⟩
  | cons x r ih =>
    intro b f h
    obtain ⟨⟨ad, c, h0, h1, h2⟩, hn⟩ := h
    obtain ⟨xs, hx, hc⟩ := ih hn
    refine ⟨_ :: _ :: xs, ⟨ad, c, xs, rfl, h2, hx⟩, fun j u hj => ?_⟩
    match j, hj with
    | 0, hj => simp at hj; subst hj; exact h0
    | 1, hj => simp at hj; subst hj; exact h1
    | j + 2, hj =>
      have := hc j u (by simpa using hj)
      rw [show f + (j + 2) = f + 2 + j by omega]
      exact this
theorem own_same {B : Nat} {e : TypeId} {sz : Nat} {v : Value} {n : Nat} {xs : List Value} {w w' : World} (h : w.ownsRow B e sz v n xs) (hb : ∀ g, v.ownBlock = some g → w'.heap[g]? = w.heap[g]?) : w'.ownsRow B e sz v n xs := by
  obtain ⟨h1, h2 | ⟨g, cap, cur, hv, hg, hh, r⟩⟩ := h
  · exact ⟨h1, Or.inl h2⟩
  · exact ⟨h1, Or.inr ⟨g, cap, cur, hv, hg, (hb g (by rw [hv]; rfl)).trans hh, r⟩⟩
theorem own_slx {w wr : World} {B : Nat} {v : Value} {xs : List Value} {l : List Fact} (ho : wr.ownsRow B 45 2 v l.length xs) (hf : FC w l xs) (hb : Below w.heap.size w wr) : ∃ ad c, v = .slice ad l.length c ∧ SlX wr l ad c := by
  obtain ⟨hl, ⟨rfl, h0⟩ | ⟨g, cap, cur, rfl, hg, hh, hn, hcm, hcs, htk⟩⟩ := ho
  · have hn : l = [] := List.eq_nil_of_length_eq_zero h0
    subst hn
    exact ⟨none, 0, rfl, Nat.le_refl _, by decide, 0, 0, Or.inr ⟨rfl, rfl⟩, trivial⟩
  · refine ⟨some ⟨g, 0, none⟩, cap, rfl, hn, hcm, g, 0, Or.inl rfl, hf.row hb (fun j u hj => ?_)⟩
    have hj2 := hj
    rw [← htk, List.getElem?_take] at hj2
    split at hj2
    · simp only [World.cell?, hh, Nat.zero_add]
      simpa using hj2
    · cases hj2
theorem info_fact : (Tryz.prog.info? 45).map (fun i => (i.zero, i.size, i.bytes)) = some (some (.agg #[.string ⟨#[]⟩, .slice none 0 0]), 2, 40) := by kernel_rfl
theorem app_core {w w1 : World} {L : List (Nat × Array Value × TypeId)} {v : Value} {n : Nat} {xs : List Value} {a : Addr} {m c : Nat} {news : List Value} (hR : Rws w.heap.size w w1 L) (hO : w1.ownsRow w.heap.size 45 2 v n xs) (hN : ∀ x ∈ L, v.ownBlock ≠ some x.1)
    (hl : news.length = m * 2) (hnews : ∀ j u, news[j]? = some u → w1.cell? (a.add j) = some u) (h1 : ∀ u ∈ news, u.oneCell' = true) (hk : n + m ≤ 3000000) (ty : TypeId) :
    ∃ v' w2, (Builtin.append_ #[25, 25] ty #[v, .slice (some a) m c]).run Tryz.prog w1 = .ok v' w2 ∧ Rws w.heap.size w w2 L ∧ w2.ownsRow w.heap.size 45 2 v' (n + m) (xs ++ news) ∧ w1.grownBy w2 v.ownBlock ∧ (v'.ownBlock = v.ownBlock ∨ v'.ownBlock = some w1.heap.size) := by
  obtain ⟨i0, hi, hz0, hz1, hz2⟩ := info_parts info_fact
  obtain ⟨v', w2, hr, hown, hgr, _, hat⟩ := run_append_own_at (P := Tryz.prog) w1 w.heap.size 25 ty 45 i0 (.agg #[.string ⟨#[]⟩, .slice none 0 0]) 2 40 Tryz.underlying25 hi hz0 hz1 hz2 rfl (by omega) v n xs hO a m c news hl hnews h1 (by unfold maxLen; omega) (by omega) hR.len
  exact ⟨v', w2, hr, hR.grownO hgr (fun x hx => (hO.lt x hx).1) (fun x hx => hN x hx), hown, hgr, hat⟩
/-- The two lists as they grow. -/
structure BS (w wr : World) (gp gf gg : Nat) (P Fv : Array Value) (m p : ByteArray) (v1 : Value) (l1 : List Fact) (v2 : Value) (l2 : List Fact) : Prop where
  R : Rws w.heap.size w wr [(gg, #[.string m, .string p, v1, v2], 27), (gf, Fv, 27), (gp, P, 24)]
  O1 : ∃ xs, wr.ownsRow w.heap.size 45 2 v1 l1.length xs ∧ FC w l1 xs
  O2 : ∃ xs, wr.ownsRow w.heap.size 45 2 v2 l2.length xs ∧ FC w l2 xs
  N1 : ∀ g, v1.ownBlock = some g → g ≠ gp ∧ g ≠ gf ∧ g ≠ gg
  N2 : ∀ g, v2.ownBlock = some g → g ≠ gp ∧ g ≠ gf ∧ g ≠ gg
  N3 : ∀ g, v1.ownBlock = some g → v2.ownBlock ≠ some g
section
variable {w wr w1 : World} {gp gf gg : Nat} {P Fv : Array Value} {m p : ByteArray} {v1 : Value} {l1 : List Fact} {v2 : Value} {l2 : List Fact}
theorem BS.below (h : BS w wr gp gf gg P Fv m p v1 l1 v2 l2) (hb : Below wr.heap.size wr w1) : BS w w1 gp gf gg P Fv m p v1 l1 v2 l2 := by
  obtain ⟨x1, o1, f1⟩ := h.O1
  obtain ⟨x2, o2, f2⟩ := h.O2
  exact ⟨h.R.call hb, ⟨x1, own_below o1 hb, f1⟩, ⟨x2, own_below o2 hb, f2⟩, h.N1, h.N2, h.N3⟩
set_option maxRecDepth 100000 in
theorem BS.app1 (hS : BS w wr gp gf gg P Fv m p v1 l1 v2 l2) (hb : Below wr.heap.size wr w1) {t : List ByteArray} {ad : Option Addr} {c : Nat} (n : ByteArray) (hs : SlS w t ad c) (hk : l1.length + 1 ≤ 3000000) (ty : TypeId) :
    ∃ v' w2, (Builtin.append_ #[25, 25] ty #[v1, .slice (some ⟨w1.heap.size, 0, none⟩) 1 1]).run Tryz.prog (w1.alloc (.cells #[.string n, .slice ad t.length c] 45)) = .ok v' w2
      ∧ Rws w.heap.size w w2 [(gg, #[.string m, .string p, v1, v2], 27), (gf, Fv, 27), (gp, P, 24)] ∧ BS w (w2.setCell ⟨gg, 2, none⟩ v') gp gf gg P Fv m p v' (l1 ++ [(n, t)]) v2 l2 := by
  have hSb := hS.below hb
  obtain ⟨x1, o1, f1⟩ := hSb.O1
  obtain ⟨x2, o2, f2⟩ := hSb.O2
  have hlg := hSb.R.lt (List.Mem.head _)
  have hlf := hSb.R.lt (List.Mem.tail _ (List.Mem.head _))
  have hlp := hSb.R.lt (List.Mem.tail _ (List.Mem.tail _ (List.Mem.head _)))
  simp only at hlg hlf hlp
  have hA : (w1.alloc (.cells #[.string n, .slice ad t.length c] 45)).heap.size = w1.heap.size + 1 := by simp
  have hnew := heap_alloc_new w1 (.cells #[.string n, .slice ad t.length c] 45)
  obtain ⟨v', w2, hr, hR2, hO, hgr, hat⟩ := app_core (a := ⟨w1.heap.size, 0, none⟩) (m := 1) (c := 1) (news := [.string n, .slice ad t.length c]) (hSb.R.alloc0 (.cells #[.string n, .slice ad t.length c] 45)) (o1.alloc _) (fun x hx => by
      simp only [List.mem_cons, List.not_mem_nil, or_false] at hx
      intro e
      have hn := hS.N1 x.1 e
      rcases hx with rfl | rfl | rfl
      · exact hn.2.2 rfl
      · exact hn.2.1 rfl
      · exact hn.1 rfl) rfl (fun k u hj => by
      rw [Addr.add_lit, Nat.zero_add]
      simp only [World.cell?, hnew]
      rw [if_neg (by simp)]
      simpa using hj) (fun u hu => by simp at hu; rcases hu with rfl | rfl <;> rfl) hk ty
  have hN : ∀ g, v'.ownBlock = some g → g ≠ gp ∧ g ≠ gf ∧ g ≠ gg := fun g hg => by
    rcases hat with h | h
    · rw [h] at hg; exact hS.N1 g hg
    · rw [h, hA] at hg; have := Option.some.inj hg; exact ⟨by omega, by omega, by omega⟩
  have hO2 : w2.ownsRow w.heap.size 45 2 v2 l2.length x2 := own_same o2 (fun g hg => by
    have hgl := (o2.lt g hg).2
    refine (hgr.block g (by rw [hA]; omega) (fun e => ?_)).trans ((b_alloc w1 _).block g hgl)
    exact hS.N3 g e.symm hg)
  have hO1 := hO
  refine ⟨v', w2, hr, hR2, ?_, ?_, ?_, hN, hS.N2, fun g hg e => by
      rcases hat with h | h
      · rw [h] at hg; exact hS.N3 g hg e
      · rw [h, hA] at hg; have := Option.some.inj hg; have := (o2.lt g e).2; omega⟩
  · exact hR2.setc 2 v'
  · exact ⟨x1 ++ [.string n, .slice ad t.length c], by rw [List.length_append]; exact ownsRow_setCell_other (a := ⟨gg, 2, none⟩) hO1 (fun e => (hN gg e).2.2 rfl) v', f1.app (FC.one n hs)⟩
  · exact ⟨x2, ownsRow_setCell_other (a := ⟨gg, 2, none⟩) hO2 (fun e => (hS.N2 gg e).2.2 rfl) v', f2⟩
/-- The same at a step of a region that draws its order. -/
theorem step_b1 {ops : Array Oper} {o : Oper} {a : Act} {K : Act → World → Prop} {Q : Exit → Act → World → Prop} {E : Prop} (hgd : o.guard = none) (s x : Operand) (ho : o.op = .call { callee := .builtin .append, args := #[s, x], argTypes := #[25, 25] })
    (hsv : a.eval s = v1) (hxv : a.eval x = .slice (some ⟨w1.heap.size, 0, none⟩) 1 1) (hS : BS w wr gp gf gg P Fv m p v1 l1 v2 l2) (hb : Below wr.heap.size wr w1) {t : List ByteArray} {ad : Option Addr} {c : Nat} (n : ByteArray) (hs : SlS w t ad c) (hk : l1.length + 1 ≤ 3000000)
    (h : ∀ (gl cap : Nat) v' w2, v' = .slice (some ⟨gl, 0, none⟩) (l1.length + 1) cap → Rws w.heap.size w w2 [(gg, #[.string m, .string p, v1, v2], 27), (gf, Fv, 27), (gp, P, 24)] → BS w (w2.setCell ⟨gg, 2, none⟩ v') gp gf gg P Fv m p v' (l1 ++ [(n, t)]) v2 l2 → K (a.put o.dst v') w2) :
    if Region.wanted o (yielded ops a.tmps) = true then Oper.wp Tryz.prog o a (w1.alloc (.cells #[.string n, .slice ad t.length c] 45)) K Q else E := by
  have hw : Region.wanted o (yielded ops a.tmps) = true := by simp [Region.wanted, hgd]
  rw [if_pos hw]
  obtain ⟨v', w2, hr, h2, h3⟩ := hS.app1 hb n hs hk o.type
  unfold Oper.wp execOp
  simp only [ho, resolve, invoke, builtin, Sem.run_bind, Sem.run_pure, Result.andThen_ok, List.map_toArray, List.map_cons, List.map_nil, hsv, hxv, hr]
  obtain ⟨gl, cap, hv⟩ : ∃ gl cap, v' = .slice (some ⟨gl, 0, none⟩) (l1.length + 1) cap := by
    obtain ⟨_, ho, _⟩ := h3.O1
    rw [List.length_append] at ho
    obtain ⟨_, ⟨_, h0⟩ | ⟨gl, cap, cur, hv, _⟩⟩ := ho
    · simp at h0
    · exact ⟨gl, cap, hv⟩
  exact h gl cap v' w2 hv h2 h3
set_option maxRecDepth 100000 in
theorem BS.app2 (hS : BS w wr gp gf gg P Fv m p v1 l1 v2 l2) (hb : Below wr.heap.size wr w1) {t : List ByteArray} {ad : Option Addr} {c : Nat} (n : ByteArray) (hs : SlS w t ad c) (hk : l2.length + 1 ≤ 3000000) (ty : TypeId) :
    ∃ v' w2, (Builtin.append_ #[25, 25] ty #[v2, .slice (some ⟨w1.heap.size, 0, none⟩) 1 1]).run Tryz.prog (w1.alloc (.cells #[.string n, .slice ad t.length c] 45)) = .ok v' w2
      ∧ Rws w.heap.size w w2 [(gg, #[.string m, .string p, v1, v2], 27), (gf, Fv, 27), (gp, P, 24)] ∧ BS w (w2.setCell ⟨gg, 3, none⟩ v') gp gf gg P Fv m p v1 l1 v' (l2 ++ [(n, t)]) := by
  have hSb := hS.below hb
  obtain ⟨x1, o1, f1⟩ := hSb.O1
  obtain ⟨x2, o2, f2⟩ := hSb.O2
  have hlg := hSb.R.lt (List.Mem.head _)
  have hlf := hSb.R.lt (List.Mem.tail _ (List.Mem.head _))
  have hlp := hSb.R.lt (List.Mem.tail _ (List.Mem.tail _ (List.Mem.head _)))
  simp only at hlg hlf hlp
  have hA : (w1.alloc (.cells #[.string n, .slice ad t.length c] 45)).heap.size = w1.heap.size + 1 := by simp
  have hnew := heap_alloc_new w1 (.cells #[.string n, .slice ad t.length c] 45)
  obtain ⟨v', w2, hr, hR2, hO, hgr, hat⟩ := app_core (a := ⟨w1.heap.size, 0, none⟩) (m := 1) (c := 1) (news := [.string n, .slice ad t.length c]) (hSb.R.alloc0 (.cells #[.string n, .slice ad t.length c] 45)) (o2.alloc _) (fun x hx => by
      simp only [List.mem_cons, List.not_mem_nil, or_false] at hx
      intro e
      have hn := hS.N2 x.1 e
      rcases hx with rfl | rfl | rfl
      · exact hn.2.2 rfl
      · exact hn.2.1 rfl
      · exact hn.1 rfl) rfl (fun k u hj => by
      rw [Addr.add_lit, Nat.zero_add]
      simp only [World.cell?, hnew]
      rw [if_neg (by simp)]
      simpa using hj) (fun u hu => by simp at hu; rcases hu with rfl | rfl <;> rfl) hk ty
  have hN : ∀ g, v'.ownBlock = some g → g ≠ gp ∧ g ≠ gf ∧ g ≠ gg := fun g hg => by
    rcases hat with h | h
    · rw [h] at hg; exact hS.N2 g hg
    · rw [h, hA] at hg; have := Option.some.inj hg; exact ⟨by omega, by omega, by omega⟩
  have hO1 : w2.ownsRow w.heap.size 45 2 v1 l1.length x1 := own_same o1 (fun g hg => by
    have hgl := (o1.lt g hg).2
    refine (hgr.block g (by rw [hA]; omega) (fun e => ?_)).trans ((b_alloc w1 _).block g hgl)
    exact hS.N3 g hg e.symm)
  have hO2 := hO
  refine ⟨v', w2, hr, hR2, ?_, ?_, ?_, hS.N1, hN, fun g hg e => by
      rcases hat with h | h
      · rw [h] at e; exact hS.N3 g hg e
      · rw [h, hA] at e; have := Option.some.inj e; have := (o1.lt g hg).2; omega⟩
  · exact hR2.setc 3 v'
  · exact ⟨x1, ownsRow_setCell_other (a := ⟨gg, 3, none⟩) hO1 (fun e => (hS.N1 gg e).2.2 rfl) v', f1⟩
  · exact ⟨x2 ++ [.string n, .slice ad t.length c], by rw [List.length_append]; exact ownsRow_setCell_other (a := ⟨gg, 3, none⟩) hO2 (fun e => (hN gg e).2.2 rfl) v', f2.app (FC.one n hs)⟩
/-- The same at a step of a region that draws its order. -/
theorem step_b2 {ops : Array Oper} {o : Oper} {a : Act} {K : Act → World → Prop} {Q : Exit → Act → World → Prop} {E : Prop} (hgd : o.guard = none) (s x : Operand) (ho : o.op = .call { callee := .builtin .append, args := #[s, x], argTypes := #[25, 25] })
    (hsv : a.eval s = v2) (hxv : a.eval x = .slice (some ⟨w1.heap.size, 0, none⟩) 1 1) (hS : BS w wr gp gf gg P Fv m p v1 l1 v2 l2) (hb : Below wr.heap.size wr w1) {t : List ByteArray} {ad : Option Addr} {c : Nat} (n : ByteArray) (hs : SlS w t ad c) (hk : l2.length + 1 ≤ 3000000)
    (h : ∀ (gl cap : Nat) v' w2, v' = .slice (some ⟨gl, 0, none⟩) (l2.length + 1) cap → Rws w.heap.size w w2 [(gg, #[.string m, .string p, v1, v2], 27), (gf, Fv, 27), (gp, P, 24)] → BS w (w2.setCell ⟨gg, 3, none⟩ v') gp gf gg P Fv m p v1 l1 v' (l2 ++ [(n, t)]) → K (a.put o.dst v') w2) :
    if Region.wanted o (yielded ops a.tmps) = true then Oper.wp Tryz.prog o a (w1.alloc (.cells #[.string n, .slice ad t.length c] 45)) K Q else E := by
  have hw : Region.wanted o (yielded ops a.tmps) = true := by simp [Region.wanted, hgd]
  rw [if_pos hw]
  obtain ⟨v', w2, hr, h2, h3⟩ := hS.app2 hb n hs hk o.type
  unfold Oper.wp execOp
  simp only [ho, resolve, invoke, builtin, Sem.run_bind, Sem.run_pure, Result.andThen_ok, List.map_toArray, List.map_cons, List.map_nil, hsv, hxv, hr]
  obtain ⟨gl, cap, hv⟩ : ∃ gl cap, v' = .slice (some ⟨gl, 0, none⟩) (l2.length + 1) cap := by
    obtain ⟨_, ho, _⟩ := h3.O2
    rw [List.length_append] at ho
    obtain ⟨_, ⟨_, h0⟩ | ⟨gl, cap, cur, hv, _⟩⟩ := ho
    · simp at h0
    · exact ⟨gl, cap, hv⟩
  exact h gl cap v' w2 hv h2 h3
end
/-- All of a list that came in behind one's own, as a step. -/
theorem wp_app {w w1 : World} {L : List (Nat × Array Value × TypeId)} {ops : Array Oper} {rest : List Oper} {o : Oper} {a : Act} {Q : Exit → Act → World → Prop} (hgd : o.guard = none) (s x : Operand) (ho : o.op = .call { callee := .builtin .append, args := #[s, x], argTypes := #[25, 25] })
    {v : Value} {n : Nat} {xs : List Value} {l : List Fact} {ad : Option Addr} {c : Nat} (hsv : a.eval s = v) (hxv : a.eval x = .slice ad l.length c) (hR : Rws w.heap.size w w1 L) (hO : w1.ownsRow w.heap.size 45 2 v n xs) (hN : ∀ x ∈ L, v.ownBlock ≠ some x.1)
    (hs : SlX w l ad c) (hc : ad = none → c = 0) (hk : n + l.length ≤ 3000000)
    (h : ∀ v' w2 ys, Rws w.heap.size w w2 L → w2.ownsRow w.heap.size 45 2 v' (n + l.length) (xs ++ ys) → FC w l ys → (∀ g, g < w1.heap.size → v.ownBlock ≠ some g → w2.heap[g]? = w1.heap[g]? ∧ v'.ownBlock ≠ some g) → wpList Tryz.prog ops Q rest (a.put o.dst v') w2) : wpList Tryz.prog ops Q (o :: rest) a w1 := by
  obtain ⟨hle, hcm, b, f, had, hrow⟩ := hs
  cases ad with
  | none =>
    have hc0 := hc rfl
    subst hc0
    have hl0 : l = [] := List.eq_nil_of_length_eq_zero (by omega)
    subst hl0
    refine wpList_plain hgd fun K hK => ?_
    have hrun := run_append_owned_none (P := Tryz.prog) (w := w1) w.heap.size 25 o.type 45 _ 2 Tryz.underlying25 (Option.some_get (by kernel_rfl)).symm v n xs hO
    unfold Oper.wp
    simp only [execOp, ho, resolve, invoke, builtin, Sem.run_bind, Sem.run_pure, Result.andThen_ok, List.map_toArray, List.map_cons, List.map_nil, hsv, hxv, List.length_nil, hrun]
    exact hK _ _ (h v w1 [] hR (by simpa using hO) rfl (fun g _ hn => ⟨rfl, hn⟩))
  | some ad =>
    obtain ⟨ys, hf, hcell⟩ := FC.of_row hrow
    obtain ⟨hl2, h1⟩ := hf.cells
    obtain ⟨v', w2, hr, hR2, hO2, hgr, hat⟩ := app_core (a := ad) (m := l.length) (c := c) (news := ys) hR hO hN hl2 (fun j u hj => by
      rcases had with h | ⟨_, h0⟩
      · obtain rfl := Option.some.inj h
        have := hcell j u hj
        rw [Addr.add_lit]
        exact (hR.below.cell (p := ⟨b, f + j, none⟩) (World.block_lt_of_cell? w _ this)).trans this
      · have : ys = [] := List.eq_nil_of_length_eq_zero (by omega)
        rw [this] at hj; simp at hj) h1 hk o.type
    refine wpList_plain hgd fun K hK => ?_
    unfold Oper.wp
    simp only [execOp, ho, resolve, invoke, builtin, Sem.run_bind, Sem.run_pure, Result.andThen_ok, List.map_toArray, List.map_cons, List.map_nil, hsv, hxv, hr]
    refine hK _ _ (h v' w2 ys hR2 hO2 hf (fun g hg hn => ⟨hgr.block g hg (fun e => hn e.symm), ?_⟩))
    rcases hat with h | h
    · rw [h]; exact hn
    · rw [h]; intro e; have := Option.some.inj e; omega
theorem own_cell {B : Nat} {e : TypeId} {sz : Nat} {v : Value} {n : Nat} {xs : List Value} {w : World} (h : w.ownsRow B e sz v n xs) : v.cells = #[v] ∧ v.oneCell' = true := by
  obtain ⟨_, ⟨rfl, _⟩ | ⟨g, cap, cur, rfl, _⟩⟩ := h
  · exact ⟨rfl, rfl⟩
  · exact ⟨rfl, rfl⟩
theorem own_empty {B : Nat} {w : World} (hB : B ≤ w.heap.size) : (w.alloc (.cells #[] 45)).ownsRow B 45 2 (.slice (some ⟨w.heap.size, 0, none⟩) 0 0) 0 [] :=
  ⟨rfl, Or.inr ⟨w.heap.size, 0, #[], rfl, hB, heap_alloc_new _ _, Nat.le_refl _, Nat.zero_le _, rfl, rfl⟩⟩
/-- One cell of a row; all other blocks are as they were. -/
theorem wB_storec {P : Program} {o : Oper} {a : Act} {Q : Exit → Act → World → Prop} {ops : Array Oper} {rest : List Oper} {B : Nat} {w0 w : World} {L L' : List (Nat × Array Value × TypeId)} {ty t : TypeId} {x y : Operand} {g k : Nat} {v : Value} {cs new : Array Value} (hgd : o.guard = none) (ho : o.op = .store ty x y) (h : Rws B w0 w L) (hx : a.eval x = .pointer (some ⟨g, k, none⟩)) (hy : a.eval y = v) (hm : Pick L (g, cs, t) L')
    (hv : v.cells = #[v]) (hi : (P.info? ty).map (·.size) = some 1) (hk : k < cs.size) (h1 : v.oneCell' = true) (hn : cs.setIfInBounds k v = new)
    (hK : ∀ w', Rws B w0 w' ((g, new, t) :: L') → (∀ k, k ≠ g → w'.heap[k]? = w.heap[k]?) → wpList P ops Q rest (a.put o.dst undef) w') : wpList P ops Q (o :: rest) a w := by
  refine wpList_plain hgd fun K hKK => ?_
  have hs := run_storeCells_at P g k t [v] 0 cs w (h.row _ hm.mem).2 (Nat.succ_le_of_lt hk) (by simpa using h1)
  have hr : (Instr.storeAt ty (.pointer (some ⟨g, k, none⟩)) v).run P w = .ok () (w.setRow g new) := by
    have e : (cs.toList.take k ++ [v] ++ cs.toList.drop (k + 1)).toArray = new := by
      rw [← hn]
      apply Array.ext'
      simp only [Array.toList_setIfInBounds]
      have e : cs.toList.set k v = cs.toList.take k ++ v :: cs.toList.drop (k + 1) := List.set_eq_take_append_cons_drop .. ▸ (by rw [if_pos (by simpa using hk)])
      rw [e]
      simp
    cases hq : P.info? ty with
    | none => simp [hq] at hi
    | some i =>
      have : i.size = 1 := by simpa [hq] using hi
      simp only [Nat.add_zero, List.length_singleton] at hs
      rw [e] at hs
      simp [Instr.storeAt, Instr.sureAddr, storeVar, sizeOf, typeInfo, Sem.run_bind, hq, this, hv, hs]
  unfold Oper.wp execOp
  simp only [ho, hx, hy]
  rw [Sem.run_bind, hr]
  refine hKK _ _ (hK _ (h.set hm new) (fun k hk => ?_))
  simp only [World.setRow, Array.getElem?_modify]
  rw [if_neg (fun e => hk e.symm)]
theorem RowX.get {w : World} {l : List Fact} : ∀ {b f i : Nat} {x : Fact}, RowX w l b f → l[i]? = some x → ∃ ad c, w.cell? ⟨b, f + i * 2, none⟩ = some (.string x.1) ∧ w.cell? ⟨b, f + i * 2 + 1, none⟩ = some (.slice ad x.2.length c) ∧ SlS w x.2 ad c := by
  induction l with
  | nil => intro b f i x _ hx; simp at hx
  | cons y r ih =>
    intro b f i x h hx
    cases i with
    | zero =>
      obtain rfl : y = x := by simpa using hx
      simpa using h.1
    | succ i =>
      have := ih h.2 (show r[i]? = some x by simpa using hx)
      rw [show f + (i + 1) * 2 = f + 2 + i * 2 by omega]
      exact this
end Go.Proofs.YthpagppipifgeaaGreatDoor
