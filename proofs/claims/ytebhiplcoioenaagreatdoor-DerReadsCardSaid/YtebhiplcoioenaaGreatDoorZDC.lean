/- ZTwo ZTwo2, in one text. -/
import Derived.Test.YtebhiplcoioenaaGreatDoorZDB
/- Two slices of one's own that grow side by side: texts, and values with what lies below them. -/
namespace Go.Proofs.YtebhiplcoioenaaGreatDoor
open Go.RowKit

structure Two (B : Nat) (G : List Nat) (w : World) (xs : List Bs) (F : Dr) (ks : List Value) (vf vk : Value) : Prop where
  hS : OwnS B w vf xs
  hK : w.ownsRow B 24 5 vk F.len ks
  hC : Chk (fun x => B ≤ x ∧ x ∉ G ∧ vf.ownBlock ≠ some x ∧ vk.ownBlock ≠ some x) w F ks
  nS : ∀ g, g ∈ G → vf.ownBlock ≠ some g
  nK : ∀ g, g ∈ G → vk.ownBlock ≠ some g
section
variable {B n size : Nat} {G : List Nat} {w w' : World} {xs : List Bs} {F : Dr} {ks l : List Value} {vf vk v v' : Value} {e e2 : TypeId} {ob : Option Nat}
theorem own_lt (h : w.ownsRow B e size v n l) {g : Nat} (hg : v.ownBlock = some g) : B ≤ g ∧ ∃ cs fr, w.heap[g]? = some (.cells cs e fr) := by
  obtain ⟨_, ⟨rfl, _⟩ | ⟨g2, cap, cur, rfl, hg2, hh, _⟩⟩ := h
  · cases hg
  · simp only [Value.ownBlock, Option.some.injEq] at hg
    subst hg
    exact ⟨hg2, cur, _, hh⟩
/-- A slice of one's own stays where other blocks change. -/
theorem own_same (h : w.ownsRow B e size v n l) (hs : ∀ g, v.ownBlock = some g → g < w.heap.size → w'.heap[g]? = w.heap[g]?) : w'.ownsRow B e size v n l := by
  obtain ⟨hl, h0 | ⟨g, cap, cur, rfl, hg, hh, r⟩⟩ := h
  · exact ⟨hl, Or.inl h0⟩
  · exact ⟨hl, Or.inr ⟨g, cap, cur, rfl, hg, (hs g rfl (Array.getElem?_eq_some_iff.1 hh).1).trans hh, r⟩⟩
/-- Slices of two kinds lie in two blocks. -/
theorem own_two {size2 n2 : Nat} {l2 : List Value} {v2 : Value} (h : w.ownsRow B e size v n l) (h2 : w.ownsRow B e2 size2 v2 n2 l2) (hne : e ≠ e2) {g : Nat} (hg : v.ownBlock = some g) : v2.ownBlock ≠ some g := fun hg2 => by
  obtain ⟨_, cs, fr, h3⟩ := own_lt h hg
  obtain ⟨_, cs2, fr2, h4⟩ := own_lt h2 hg2
  rw [h3] at h4
  simp only [Option.some.injEq, Obj.cells.injEq] at h4
  exact hne h4.2.1
theorem Two.same (h : Two B G w xs F ks vf vk) (hs : ∀ k, k < w.heap.size → B ≤ k → k ∉ G → w'.heap[k]? = w.heap[k]?) : Two B G w' xs F ks vf vk :=
  ⟨own_same h.hS fun g hg hl => hs g hl (own_lt h.hS hg).1 (fun hm => h.nS g hm hg), own_same h.hK fun g hg hl => hs g hl (own_lt h.hK hg).1 (fun hm => h.nK g hm hg),
    h.hC.same (fun _ hq _ => hq) (fun k hq hl => hs k hl hq.1 hq.2.1), h.nS, h.nK⟩
theorem Two.below (h : Two B G w xs F ks vf vk) (hb : Below w.heap.size w w') : Two B G w' xs F ks vf vk := h.same fun k hk _ _ => hb.block k hk
theorem Two.bes {g : Nat} (h : Two B G w xs F ks vf vk) (hg : g ∈ G) (hb : Bes g w w') : Two B G w' xs F ks vf vk := h.same fun k hk _ hn => hb.same k hk (fun e => hn (e ▸ hg))
/-- More blocks are named. -/
theorem Two.more (h : Two B G w xs F ks vf vk) {g : Nat} (hg : w.heap.size ≤ g) (hl : ∀ k, (∃ x, w.heap[k]? = some x) → k < w.heap.size) (hC : Chk (fun x => B ≤ x ∧ x ∉ g :: G ∧ vf.ownBlock ≠ some x ∧ vk.ownBlock ≠ some x) w F ks) : Two B (g :: G) w xs F ks vf vk :=
  ⟨h.hS, h.hK, hC, fun k hk e => by
    rcases List.mem_cons.1 hk with rfl | hk
    · obtain ⟨_, cs, fr, hh⟩ := own_lt h.hS e; have := hl _ ⟨_, hh⟩; omega
    · exact h.nS k hk e, fun k hk e => by
    rcases List.mem_cons.1 hk with rfl | hk
    · obtain ⟨_, cs, fr, hh⟩ := own_lt h.hK e; have := hl _ ⟨_, hh⟩; omega
    · exact h.nK k hk e⟩
/-- A text more. -/
theorem Two.snocS (h : Two B G w xs F ks vf vk) {s : Bs} (hG : ∀ g, g ∈ G → g < w.heap.size) (hown : OwnS B w' v' (xs ++ [s])) (hgr : w.grownBy w' vf.ownBlock) (hat : v'.ownBlock = vf.ownBlock ∨ v'.ownBlock = some w.heap.size) : Two B G w' (xs ++ [s]) F ks v' vk := by
  have hd : ∀ g, vk.ownBlock = some g → some g ≠ vf.ownBlock := fun g hg e => own_two h.hK h.hS (by decide) hg e.symm
  refine ⟨hown, own_same h.hK fun g hg hl => hgr.block g hl (hd g hg), h.hC.same (fun k hq hl => ⟨hq.1, hq.2.1, ?_, hq.2.2.2⟩) (fun k hq hl => hgr.block k hl (fun e => hq.2.2.1 e.symm)), fun g hg e => ?_, h.nK⟩
  · rcases hat with hat | hat
    · rw [hat] at e; exact h.nS g hg e
    · rw [hat] at e; simp only [Option.some.injEq] at e; have := hG g hg; omega
  · rcases hat with hat | hat
    · rw [hat]; exact hq.2.2.1
    · rw [hat]; intro e; simp only [Option.some.injEq] at e; omega
/-- A value more, whose parts lie in new blocks. -/
theorem Two.snocK (h : Two B G w xs F ks vf vk) {d : Dv} {ad : Option Addr} {cp : Nat} (hG : ∀ g, g ∈ G → g < w.heap.size) (hd : d.b.length ≤ SB) (hq : SlQ (fun x => B ≤ x ∧ x ∉ G ∧ vf.ownBlock ≠ some x ∧ vk.ownBlock ≠ some x) w d.l ad cp)
    (hown : w'.ownsRow B 24 5 v' (F.len + 1) (ks ++ dcl d ad cp)) (hgr : w.grownBy w' vk.ownBlock) (hat : v'.ownBlock = vk.ownBlock ∨ v'.ownBlock = some w.heap.size) : Two B G w' xs (F.snoc d) (ks ++ dcl d ad cp) vf v' := by
  have hne : ∀ g, vf.ownBlock = some g → some g ≠ vk.ownBlock := fun g hg e => own_two h.hS h.hK (by decide) hg e.symm
  have hC2 := (h.hC.snoc hd hq).same (Q' := fun x => B ≤ x ∧ x ∉ G ∧ vf.ownBlock ≠ some x ∧ v'.ownBlock ≠ some x) (w' := w') (fun k hq hl => ⟨hq.1, hq.2.1, hq.2.2.1, by
    rcases hat with hat | hat
    · rw [hat]; exact hq.2.2.2
    · rw [hat]; intro e; simp only [Option.some.injEq] at e; omega⟩) (fun k hq hl => hgr.block k hl (fun e => hq.2.2.2 e.symm))
  refine ⟨own_same h.hS fun g hg hl => hgr.block g hl (hne g hg), by rw [Dr.snoc_len]; exact hown, hC2, h.nS, fun g hg e => ?_⟩
  rcases hat with hat | hat
  · rw [hat] at e; exact h.nK g hg e
  · rw [hat] at e; simp only [Option.some.injEq] at e; have := hG g hg; omega
theorem Two.start (G : List Nat) (w : World) : Two B G w [] .nil [] (.slice none 0 0) (.slice none 0 0) :=
  ⟨World.ownsRow_nil _ _ _ _, World.ownsRow_nil _ _ _ _, rfl, fun _ _ e => (by cases e), fun _ _ e => (by cases e)⟩
/-- The values as a slice. -/
theorem Two.slq (h : Two B G w xs F ks vf vk) : ∃ ad c, vk = .slice ad F.len c ∧ SlQ (fun x => B ≤ x) w F ad c ∧ OwnD B w F.len ad c := by
  have hC : Chk (fun x => B ≤ x) w F ks := h.hC.same (fun _ hq _ => hq.1) (fun _ _ _ => rfl)
  obtain ⟨ad, c, h1, h2⟩ := hC.slq h.hK fun g c e => (own_lt h.hK (g := g) (by rw [e]; rfl)).1
  exact ⟨ad, c, h1, h2, ks, h1 ▸ h.hK⟩
/-- The texts as cells. -/
theorem Two.len (h : Two B G w xs F ks vf vk) : ∃ ad c, vf = .slice ad xs.length c := by
  obtain ⟨_, ⟨rfl, h0⟩ | ⟨g, cap, cur, rfl, _⟩⟩ := h.hS
  · exact ⟨none, 0, by rw [h0]⟩
  · exact ⟨_, cap, rfl⟩
end
end Go.Proofs.YtebhiplcoioenaaGreatDoor
/- Two slices that grow side by side: the steps. -/
namespace Go.Proofs.YtebhiplcoioenaaGreatDoor
open Go.RowKit

section
variable {P : Program} {o : Oper} {a : Act} {Q : Exit → Act → World → Prop} {ops : Array Oper} {rest : List Oper} {B : Nat} {w0 w : World} {L L' : List (Nat × Array Value × TypeId)}
/-- One cell of a row; all other blocks are as they were. -/
theorem wS_storec {ty t : TypeId} {x y : Operand} {g k : Nat} {v : Value} {cs new : Array Value} (hgd : o.guard = none) (ho : o.op = .store ty x y) (h : Rws B w0 w L) (hx : a.eval x = .pointer (some ⟨g, k, none⟩)) (hy : a.eval y = v) (hm : Pick L (g, cs, t) L')
    (hv : v.cells = #[v]) (hi : (P.info? ty).map (·.size) = some 1) (hk : k < cs.size) (h1 : v.oneCell' = true) (hn : cs.setIfInBounds k v = new)
    (hK : ∀ w', Rws B w0 w' ((g, new, t) :: L') → (∀ k, k ≠ g → w'.heap[k]? = w.heap[k]?) → w'.heap.size = w.heap.size → wpList P ops Q rest (a.put o.dst undef) w') : wpList P ops Q (o :: rest) a w := by
  have hs := run_storeCells_at P g k t [v] 0 cs w (h.row _ hm.mem).2 (by simpa using Nat.succ_le_of_lt hk) (by simpa using h1)
  have e0 : (cs.toList.take k ++ [v] ++ cs.toList.drop (k + 1)).toArray = new := by
    rw [← hn]
    apply Array.ext'
    simp only [Array.toList_setIfInBounds]
    have e : cs.toList.set k v = cs.toList.take k ++ v :: cs.toList.drop (k + 1) := List.set_eq_take_append_cons_drop .. ▸ (by rw [if_pos (by simpa using hk)])
    rw [e]
    simp
  have hr : (Instr.storeAt ty (.pointer (some ⟨g, k, none⟩)) v).run P w = .ok () (w.setRow g new) := by
    cases hq : P.info? ty with
    | none => simp [hq] at hi
    | some i =>
      have : i.size = 1 := by simpa [hq] using hi
      simp only [Nat.add_zero, List.length_cons, List.length_nil, Nat.zero_add, e0] at hs
      simp [Instr.storeAt, Instr.sureAddr, storeVar, sizeOf, typeInfo, Sem.run_bind, hq, this, hv, hs]
  refine wpList_plain hgd fun K hKK => ?_
  unfold Oper.wp execOp
  simp only [ho, hx, hy]
  rw [Sem.run_bind, hr]
  refine hKK _ _ (hK _ (h.set hm new) (fun k hk => ?_) (size_setRow _ _ _))
  simp only [World.setRow, Array.getElem?_modify]
  rw [if_neg (fun e => hk e.symm)]
end
theorem Rws.grownO {B : Nat} {w0 w w' : World} {L : List (Nat × Array Value × TypeId)} {ob : Option Nat} (h : Rws B w0 w L) (hg : w.grownBy w' ob) (hB : ∀ q, ob = some q → B ≤ q) (hn : ∀ x, x ∈ L → ob ≠ some x.1) : Rws B w0 w' L :=
  ⟨h.below.grown hg h.len hB, Nat.le_trans h.len hg.size, fun x hx => ⟨(h.row x hx).1, (hg.block x.1 (h.lt hx) (fun e => hn x hx e.symm)).trans (h.row x hx).2⟩, h.nd⟩
section
variable {w0 w1 : World} {B : Nat} {G : List Nat} {L : List (Nat × Array Value × TypeId)} {ops : Array Oper} {rest : List Oper} {o : Oper} {a : Act} {Q : Exit → Act → World → Prop} {xs : List Bs} {F : Dr} {ks : List Value} {vf vk : Value}
theorem wp_twoS (hgd : o.guard = none) (s x : Operand) (ho : o.op = .call { callee := .builtin .append, args := #[s, x], argTypes := #[65, 65] })
    (c : Bs) (hsv : a.eval s = vf) (hxv : a.eval x = .slice (some ⟨w1.heap.size, 0, none⟩) 1 1) (h2 : Two B G w1 xs F ks vf vk) (hR : Rws B w0 w1 L) (hLG : ∀ y, y ∈ L → y.1 ∈ G) (hG : ∀ g, g ∈ G → g < w1.heap.size) (hk : xs.length + 1 ≤ 3000000)
    (h : ∀ v' w2, Two B G w2 (xs ++ [c]) F ks v' vk → Rws B w0 w2 L → w1.heap.size ≤ w2.heap.size → (∀ k, k < w1.heap.size → vf.ownBlock ≠ some k → w2.heap[k]? = w1.heap[k]?) → (∀ k, k < w1.heap.size → vf.ownBlock ≠ some k → v'.ownBlock ≠ some k) → wpList Tryz.prog ops Q rest (a.put o.dst v') w2) : wpList Tryz.prog ops Q (o :: rest) a (w1.alloc (.cells #[.string (bs c)] 9)) := by
  obtain ⟨i0, hi, hz0, hz1, hz2⟩ := info_parts info_str
  have hnew := heap_alloc_new w1 (.cells #[.string (bs c)] 9)
  have h3 := h2.below (b_alloc w1 (.cells #[.string (bs c)] 9))
  have hR3 := hR.alloc0 (.cells #[.string (bs c)] 9)
  have hsz : (w1.alloc (.cells #[.string (bs c)] 9)).heap.size = w1.heap.size + 1 := by simp
  have hnb : (xs.length + 1) * 16 ≤ 140737488355328 := Nat.le_trans (Nat.mul_le_mul hk (Nat.le_refl 16)) (by decide)
  obtain ⟨v', w2, hr, hown, hgr, _, hat⟩ := run_append_own_at (P := Tryz.prog) (w1.alloc (.cells #[.string (bs c)] 9)) B 65 o.type 9 i0 (.string ByteArray.empty) 1 16 Tryz.underlying65 hi hz0 hz1 hz2 rfl (by decide) vf xs.length (StC xs) h3.hS ⟨w1.heap.size, 0, none⟩ 1 1 [.string (bs c)] (by rfl) (fun k u hj => by
      rw [Addr.add_lit, Nat.zero_add]
      simp only [World.cell?, hnew]
      rw [if_neg (by simp)]
      simpa using hj) (by simp [Value.oneCell']) (by unfold maxLen; omega) hnb hR3.len
  refine wpList_plain hgd fun K hK => ?_
  unfold Oper.wp
  simp only [execOp, ho, resolve, invoke, builtin, Sem.run_bind, Sem.run_pure, Result.andThen_ok, List.map_toArray, List.map_cons, List.map_nil, hsv, hxv, hr]
  have hown2 : OwnS B w2 v' (xs ++ [c]) := by
    unfold OwnS StC
    rw [List.length_append, List.map_append]; exact hown
  exact hK _ _ (h v' w2 (h3.snocS (fun g hg => by have := hG g hg; omega) hown2 hgr hat) (hR3.grownO hgr (fun q hq => (own_lt h3.hS hq).1) (fun y hy => h3.nS _ (hLG y hy))) (by have := hgr.size; omega) (fun k hk hn => (hgr.block k (by omega) (fun e => hn e.symm)).trans (Below.heap_alloc w1 _ _ hk)) (fun k hk hn => by
    rcases hat with hat | hat
    · rw [hat]; exact hn
    · rw [hat]; intro e; simp only [Option.some.injEq] at e; omega))
theorem wp_twoK (hgd : o.guard = none) (s x : Operand) (ho : o.op = .call { callee := .builtin .append, args := #[s, x], argTypes := #[22, 22] })
    (d : Dv) (ad : Option Addr) (cp : Nat) (hsv : a.eval s = vk) (hxv : a.eval x = .slice (some ⟨w1.heap.size, 0, none⟩) 1 1) (h2 : Two B G w1 xs F ks vf vk) (hR : Rws B w0 w1 L) (hLG : ∀ y, y ∈ L → y.1 ∈ G) (hG : ∀ g, g ∈ G → g < w1.heap.size) (hk : F.len + 1 ≤ 1000000)
    (hd : d.b.length ≤ SB) (hq : SlQ (fun x => B ≤ x ∧ x ∉ G ∧ vf.ownBlock ≠ some x ∧ vk.ownBlock ≠ some x) w1 d.l ad cp)
    (h : ∀ v' w2, Two B G w2 xs (F.snoc d) (ks ++ dcl d ad cp) vf v' → Rws B w0 w2 L → w1.heap.size ≤ w2.heap.size → wpList Tryz.prog ops Q rest (a.put o.dst v') w2) : wpList Tryz.prog ops Q (o :: rest) a (w1.alloc (.cells (dvC d ad cp) 24)) := by
  obtain ⟨i0, hi, hz0, hz1, hz2⟩ := info_parts info_der
  have hnew := heap_alloc_new w1 (.cells (dvC d ad cp) 24)
  have h3 := h2.below (b_alloc w1 (.cells (dvC d ad cp) 24))
  have hR3 := hR.alloc0 (.cells (dvC d ad cp) 24)
  have hsz : (w1.alloc (.cells (dvC d ad cp) 24)).heap.size = w1.heap.size + 1 := by simp
  have hnb : (F.len + 1) * 64 ≤ 140737488355328 := Nat.le_trans (Nat.mul_le_mul hk (Nat.le_refl 64)) (by decide)
  obtain ⟨v', w2, hr, hown, hgr, _, hat⟩ := run_append_own_at (P := Tryz.prog) (w1.alloc (.cells (dvC d ad cp) 24)) B 22 o.type 24 i0 _ 5 64 Tryz.underlying22 hi hz0 hz1 hz2 rfl (by decide) vk F.len ks h3.hK ⟨w1.heap.size, 0, none⟩ 1 1 (dcl d ad cp) (by rfl) (fun k u hj => by
      rw [Addr.add_lit, Nat.zero_add]
      simp only [World.cell?, hnew]
      rw [if_neg (by simp)]
      simpa [dcl] using hj) (by simp [dcl, Value.oneCell']) (by unfold maxLen; omega) hnb hR3.len
  refine wpList_plain hgd fun K hK => ?_
  unfold Oper.wp
  simp only [execOp, ho, resolve, invoke, builtin, Sem.run_bind, Sem.run_pure, Result.andThen_ok, List.map_toArray, List.map_cons, List.map_nil, hsv, hxv, hr]
  exact hK _ _ (h v' w2 (h3.snocK (fun g hg => by have := hG g hg; omega) hd (hq.below (b_alloc w1 _)) hown hgr hat) (hR3.grownO hgr (fun q hq => (own_lt h3.hK hq).1) (fun y hy => h3.nK _ (hLG y hy))) (by have := hgr.size; omega))
end
end Go.Proofs.YtebhiplcoioenaaGreatDoor
