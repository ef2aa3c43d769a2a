/- HPlain HLaws HLaws2 HState HNew, in one text. -/
import Derived.Test.YtjkjlbchbbpmaaaGreatDoorZH9
import Derived.Test.YtjkjlbchbbpmaaaGreatDoorZS
/- hash: the sum of 256 bits in plain numbers. -/
namespace Go.Proofs.YtjkjlbchbbpmaaaGreatDoor
open Go.RowKit

/-- A word of four bytes, as it is put together. -/
def wordN (b : Nat → Nat) (i : Nat) : Nat → Nat
  | 0 => 0
  | n + 1 => wordN b i n * 256 + b (4 * i + n)
theorem wordN_lt (b : Nat → Nat) (hb : ∀ i, b i < 256) (i : Nat) : ∀ n, wordN b i n < 256 ^ n
  | 0 => Nat.one_pos
  | n + 1 => by
    have h := wordN_lt b hb i n
    have h2 := hb (4 * i + n)
    show wordN b i n * 256 + b (4 * i + n) < 256 ^ n * 256
    omega
theorem wordN_congr {b b' : Nat → Nat} (i : Nat) : ∀ n, (∀ j, j < n → b (4 * i + j) = b' (4 * i + j)) → wordN b i n = wordN b' i n
  | 0, _ => rfl
  | n + 1, h => by
    show wordN b i n * 256 + _ = wordN b' i n * 256 + _
    rw [wordN_congr i n (fun j hj => h j (by omega)), h n (by omega)]

/-- The words of a block: the first sixteen, and one more each time. -/
def wordsOf (b : Nat → Nat) : Nat → Nat := fun i => if i < 16 then wordN b i 4 else 0
def wstep (f : Nat → Nat) (i : Nat) : Nat → Nat := fun j => if j = i then (((f (i - 16) + mix32 (f (i - 15)) 7 18 3 true) % 4294967296 + f (i - 7)) % 4294967296 + mix32 (f (i - 2)) 17 19 10 true) % 4294967296 else f j
def wrun (f : Nat → Nat) : Nat → Nat → Nat
  | 0 => f
  | n + 1 => wstep (wrun f n) (16 + n)
theorem wordsOf_lt (b : Nat → Nat) (hb : ∀ i, b i < 256) (j : Nat) : wordsOf b j < 4294967296 := by
  unfold wordsOf
  split
  · exact wordN_lt b hb j 4
  · omega
theorem wstep_lt {f : Nat → Nat} (hf : ∀ j, f j < 4294967296) (i j : Nat) : wstep f i j < 4294967296 := by
  unfold wstep
  split
  · exact Nat.mod_lt _ (by omega)
  · exact hf j
theorem wrun_lt {f : Nat → Nat} (hf : ∀ j, f j < 4294967296) : ∀ n j, wrun f n j < 4294967296
  | 0, j => hf j
  | n + 1, j => wstep_lt (wrun_lt hf n) _ j

/-- One round. -/
def rT (v : Nat → Nat) (k w : Nat) : Nat := ((((v 7 + mix32 (v 4) 6 11 25 false) % 4294967296 + ((v 4 &&& v 5) ^^^ ((4294967295 ^^^ v 4) &&& v 6))) % 4294967296 + k) % 4294967296 + w) % 4294967296
def rU (v : Nat → Nat) : Nat := (mix32 (v 0) 2 13 22 false + ((v 0 &&& v 1) ^^^ (v 0 &&& v 2) ^^^ (v 1 &&& v 2))) % 4294967296
def rstep (v : Nat → Nat) (k w : Nat) : Nat → Nat
  | 0 => (rT v k w + rU v) % 4294967296
  | 1 => v 0
  | 2 => v 1
  | 3 => v 2
  | 4 => (v 3 + rT v k w) % 4294967296
  | 5 => v 4
  | 6 => v 5
  | 7 => v 6
  | _ => 0
def rrun (v K W : Nat → Nat) : Nat → Nat → Nat
  | 0 => v
  | n + 1 => rstep (rrun v K W n) (K n) (W n)
theorem rstep_lt {v : Nat → Nat} (hv : ∀ j, v j < 4294967296) (k w : Nat) : ∀ j, rstep v k w j < 4294967296
  | 0 => Nat.mod_lt _ (by omega)
  | 1 => hv 0
  | 2 => hv 1
  | 3 => hv 2
  | 4 => Nat.mod_lt _ (by omega)
  | 5 => hv 4
  | 6 => hv 5
  | 7 => hv 6
  | _ + 8 => by show 0 < _; omega
theorem rrun_lt {v K W : Nat → Nat} (hv : ∀ j, v j < 4294967296) : ∀ n j, rrun v K W n j < 4294967296
  | 0, j => hv j
  | n + 1, j => rstep_lt (rrun_lt hv n) _ _ j

/-- The state behind a block. -/
def kF (j : Nat) : Nat := kRoots.getD j 0
def next32 (s b : Nat → Nat) : Nat → Nat := fun j => (rrun s kF (wrun (wordsOf b) 48) 64 j + s j) % 4294967296
theorem next32_lt (s b : Nat → Nat) (j : Nat) : next32 s b j < 4294967296 := Nat.mod_lt _ (by omega)

theorem wstep_congr {f g : Nat → Nat} {i : Nat} (h : ∀ j, j < i → f j = g j) (hi : 16 ≤ i) : ∀ j, j < i + 1 → wstep f i j = wstep g i j := by
  intro j hj
  unfold wstep
  rw [h (i - 16) (by omega), h (i - 15) (by omega), h (i - 7) (by omega), h (i - 2) (by omega)]
  by_cases e : j = i
  · rw [if_pos e, if_pos e]
  · rw [if_neg e, if_neg e]; exact h j (by omega)
theorem wrun_congr {f g : Nat → Nat} (h : ∀ j, j < 16 → f j = g j) : ∀ n j, j < 16 + n → wrun f n j = wrun g n j
  | 0, j, hj => h j hj
  | n + 1, j, hj => wstep_congr (wrun_congr h n) (by omega) j (by omega)
theorem rrun_congr {v K W W' : Nat → Nat} : ∀ n, (∀ j, j < n → W j = W' j) → rrun v K W n = rrun v K W' n
  | 0, _ => rfl
  | n + 1, h => by
    show rstep (rrun v K W n) (K n) (W n) = rstep (rrun v K W' n) (K n) (W' n)
    rw [rrun_congr n (fun j hj => h j (by omega)), h n (by omega)]
theorem next32_congr (s : Nat → Nat) {b b' : Nat → Nat} (h : ∀ j, j < 64 → b j = b' j) : next32 s b = next32 s b' := by
  have e : ∀ j, j < 16 → wordsOf b j = wordsOf b' j := fun j hj => by
    unfold wordsOf
    rw [if_pos hj, if_pos hj]
    exact wordN_congr j 4 fun i hi => h _ (by omega)
  unfold next32
  rw [rrun_congr 64 fun j hj => wrun_congr e 48 j (by omega)]

/-- The state behind so many blocks of a text. -/
def fold32 (s M : Nat → Nat) : Nat → Nat → Nat
  | 0 => s
  | n + 1 => next32 (fold32 s M n) (fun j => M (64 * n + j))
theorem fold32_lt {s : Nat → Nat} (hs : ∀ j, s j < 4294967296) (M : Nat → Nat) : ∀ n j, fold32 s M n j < 4294967296
  | 0, j => hs j
  | _ + 1, j => next32_lt _ _ j
theorem fold32_congr (s : Nat → Nat) {M M' : Nat → Nat} : ∀ n, (∀ j, j < 64 * n → M j = M' j) → fold32 s M n = fold32 s M' n
  | 0, _ => rfl
  | n + 1, h => by
    show next32 (fold32 s M n) _ = next32 (fold32 s M' n) _
    rw [fold32_congr s n (fun j hj => h j (by omega))]
    exact next32_congr _ fun j hj => h _ (by omega)

/-- A text of n bytes with what is laid behind it, t bytes in all. -/
def padF (m : Nat → Nat) (n t : Nat) : Nat → Nat := fun i => if i < n then m i else if i = n then 128 else if i + 8 < t then 0 else 8 * n / 2 ^ (8 * (t - 1 - i)) % 256
def padT (n : Nat) : Nat := 64 * ((n + 72) / 64)
def firstF (j : Nat) : Nat := ([0x6a09e667, 0xbb67ae85, 0x3c6ef372, 0xa54ff53a, 0x510e527f, 0x9b05688c, 0x1f83d9ab, 0x5be0cd19] : List Nat).getD j 0
/-- The state at the end. -/
def shaF (m : Nat → Nat) (n : Nat) : Nat → Nat := fold32 firstF (padF m n (padT n)) (padT n / 64)
/-- A state's bytes. -/
def stB (v : Nat → Nat) : List UInt8 := (List.range 32).map fun i => UInt8.ofNat (v (i / 4) / 2 ^ (24 - 8 * (i % 4)) % 256)
/-- The sum of bytes. -/
def sha (s : ByteArray) : ByteArray := ⟨(stB (shaF (fun i => (s.data.toList.getD i 0).toNat) s.size)).toArray⟩
theorem sha_size (s : ByteArray) : (sha s).size = 32 := rfl
theorem firstF_roots : ∀ j, j < 8 → firstF j = rootF ([2, 3, 5, 7, 11, 13, 17, 19].getD j 0) 2 32 := by decide +kernel
end Go.Proofs.YtjkjlbchbbpmaaaGreatDoor
/- hash: laws for rows of words, slices of them, and the parts of structs in rows. -/
namespace Go.Proofs.YtjkjlbchbbpmaaaGreatDoor
open Go.RowKit

/-- Words in a row. -/
def wc (n : Nat) (f : Nat → Nat) : Array Value := ((List.range n).map fun i => Value.int .u32 ((f i : Nat) : Int)).toArray
theorem wc_size (n : Nat) (f : Nat → Nat) : (wc n f).size = n := by simp [wc]
theorem wc_get {n j : Nat} (f : Nat → Nat) (h : j < n) : (wc n f)[j]? = some (.int .u32 ((f j : Nat) : Int)) := by
  simp [wc, h]
theorem wc_ext {n : Nat} {f : Nat → Nat} {cs : Array Value} (hs : cs.size = n) (h : ∀ j, j < n → cs[j]? = some (.int .u32 ((f j : Nat) : Int))) : cs = wc n f := by
  apply Array.ext_getElem?
  intro j
  by_cases hj : j < n
  · rw [h j hj, wc_get f hj]
  · rw [Array.getElem?_eq_none (by omega), Array.getElem?_eq_none (by rw [wc_size]; omega)]
theorem wc_congr {n : Nat} {f g : Nat → Nat} (h : ∀ j, j < n → f j = g j) : wc n f = wc n g :=
  wc_ext (wc_size n f) fun j hj => by rw [wc_get f hj, h j hj]
theorem wc_set {n : Nat} (f : Nat → Nat) (j x : Nat) : (wc n f).setIfInBounds j (.int .u32 ((x : Nat) : Int)) = wc n (fun i => if i = j then x else f i) :=
  wc_ext (by simp [wc_size]) fun i hi => by
    by_cases e : j = i
    · subst e
      rw [Array.getElem?_setIfInBounds_self_of_lt (by rw [wc_size]; exact hi)]
      simp
    · rw [Array.getElem?_setIfInBounds_ne e, wc_get f hi, if_neg (fun h => e h.symm)]
theorem wc_cells (n : Nat) (f : Nat → Nat) : (wc n f).all (·.oneCell') = true := by
  simp [wc, Value.oneCell']

section
variable {B : Nat} {w0 w w' : World} {L L' : List (Nat × Array Value × TypeId)}
theorem Rws.front {x : Nat × Array Value × TypeId} (h : Rws B w0 w L) (hm : Pick L x L') : Rws B w0 w (x :: L') :=
  ⟨h.below, h.len, fun y hy => by
    rcases List.mem_cons.1 hy with rfl | hy
    · exact h.row _ hm.mem
    · exact h.row y (hm.sub.subset hy), List.pairwise_cons.2 ⟨fun y hy e => hm.ne h.nd y hy e.symm, h.nd.sublist hm.sub⟩⟩
theorem Rws.setp {g : Nat} {cs new : Array Value} {t : TypeId} (h : Rws B w0 w L) (hm : Pick L (g, cs, t) L') (j : Nat) (v : Value) (hn : cs.setIfInBounds j v = new) : Rws B w0 (w.setCell ⟨g, j, none⟩ v) ((g, new, t) :: L') := by
  rw [← hn]; exact (h.front hm).setc j v
theorem Rws.cellAt {g : Nat} {cs : Array Value} {t : TypeId} {v : Value} (h : Rws B w0 w L) (hm : (g, cs, t) ∈ L) (j : Nat) (hc : cs[j]? = some v) : w.cell? ⟨g, j, none⟩ = some v :=
  (cell_of_row w g j cs t _ (h.row _ hm).2).trans hc
theorem Rws.thaw {g : Nat} {cs : Array Value} {t : TypeId} (h : Rws B w0 w L) (hm : (g, cs, t) ∈ L) (j : Nat) : w.frozen? ⟨g, j, none⟩ = false := by
  have := (h.row _ hm).2
  simp only at this
  simp [World.frozen?, this]

variable {P : Program} {o : Oper} {a : Act} {Q : Exit → Act → World → Prop} {ops : Array Oper} {rest : List Oper}
/-- A value into a part of a row. -/
theorem wR_store {ty t : TypeId} {x y : Operand} {g k : Nat} {v : Value} {vs : List Value} {cs new : Array Value} (hgd : o.guard = none) (ho : o.op = .store ty x y) (h : Rws B w0 w L) (hx : a.eval x = .pointer (some ⟨g, k, none⟩)) (hy : a.eval y = v) (hm : Pick L (g, cs, t) L')
    (hv : v.cells.toList = vs) (hi : (P.info? ty).map (·.size) = some vs.length) (hk : k + vs.length ≤ cs.size) (h1 : ∀ u ∈ vs, u.oneCell' = true) (hn : (cs.toList.take k ++ vs ++ cs.toList.drop (k + vs.length)).toArray = new)
    (hK : ∀ w', Rws B w0 w' ((g, new, t) :: L') → wpList P ops Q rest (a.put o.dst undef) w') : wpList P ops Q (o :: rest) a w := by
  refine wpList_plain hgd fun K hKK => ?_
  have hs := run_storeCells_at P g k t vs 0 cs w (h.row _ hm.mem).2 (by omega) h1
  have hsz : v.cells.size = vs.length := by rw [← hv]; simp
  have hr : (Instr.storeAt ty (.pointer (some ⟨g, k, none⟩)) v).run P w = .ok () (w.setRow g new) := by
    cases hq : P.info? ty with
    | none => simp [hq] at hi
    | some i =>
      have : i.size = vs.length := by simpa [hq] using hi
      simp only [Nat.add_zero] at hs
      simp [Instr.storeAt, Instr.sureAddr, storeVar, sizeOf, typeInfo, Sem.run_bind, hq, this, hsz, hv, hs, ← hn]
  unfold Oper.wp execOp
  simp only [ho, hx, hy]
  rw [Sem.run_bind, hr]
  exact hKK _ _ (hK _ (h.set hm new))
/-- One cell of a row. -/
theorem wR_storec {ty t : TypeId} {x y : Operand} {g k : Nat} {v : Value} {cs new : Array Value} (hgd : o.guard = none) (ho : o.op = .store ty x y) (h : Rws B w0 w L) (hx : a.eval x = .pointer (some ⟨g, k, none⟩)) (hy : a.eval y = v) (hm : Pick L (g, cs, t) L')
    (hv : v.cells = #[v]) (hi : (P.info? ty).map (·.size) = some 1) (hk : k < cs.size) (h1 : v.oneCell' = true) (hn : cs.setIfInBounds k v = new)
    (hK : ∀ w', Rws B w0 w' ((g, new, t) :: L') → wpList P ops Q rest (a.put o.dst undef) w') : wpList P ops Q (o :: rest) a w := by
  refine wR_store hgd ho h hx hy hm (vs := [v]) (by rw [hv]) hi (Nat.succ_le_of_lt hk) (by simpa using h1) ?_ hK
  rw [← hn]
  apply Array.ext'
  simp only [Array.toList_setIfInBounds]
  have e : cs.toList.set k v = cs.toList.take k ++ v :: cs.toList.drop (k + 1) := List.set_eq_take_append_cons_drop .. ▸ (by rw [if_pos (by simpa using hk)])
  rw [e]
  simp
/-- One cell out of a row. -/
theorem wR_loadc {t t2 : TypeId} {x : Operand} {g k : Nat} {cs : Array Value} {v : Value} (hgd : o.guard = none) (ho : o.op = .load t x) (h : Rws B w0 w L) (hx : a.eval x = .pointer (some ⟨g, k, none⟩)) (hm : (g, cs, t2) ∈ L) (hc : cs[k]? = some v) (hag : ∀ w : World, (isAgg t).run P w = .ok false w)
    (hK : wpList P ops Q rest (a.put o.dst v) w) : wpList P ops Q (o :: rest) a w :=
  wpList_plain hgd fun K hKK => by
    have hcell : w.cell? ⟨g, k, none⟩ = some v := h.cellAt hm k hc
    have h1 : (Instr.loadAt t (.pointer (some ⟨g, k, none⟩))).run P w = .ok v w := by
      simp [Instr.loadAt, Instr.sureAddr, loadVar, Sem.run_bind, hag, run_load, hcell]
    unfold Oper.wp execOp
    simp only [ho, hx]
    rw [Sem.run_bind, h1]
    exact hKK _ _ hK
/-- A struct or an array out of a part of a row. -/
theorem wR_load {t t2 : TypeId} {x : Operand} {g k : Nat} {cs vs : Array Value} {d : TypeDesc} (hgd : o.guard = none) (ho : o.op = .load t x) (h : Rws B w0 w L) (hx : a.eval x = .pointer (some ⟨g, k, none⟩)) (hm : (g, cs, t2) ∈ L)
    (hu : P.underlying t = some d) (hd : (match d with | .struct _ | .array _ _ => true | _ => false) = true) (hi : (P.info? t).map (·.size) = some vs.size) (hv : ∀ j, j < vs.size → cs[k + j]? = vs[j]?)
    (hK : wpList P ops Q rest (a.put o.dst (.agg vs)) w) : wpList P ops Q (o :: rest) a w :=
  wpList_plain hgd fun K hKK => by
    have h1 := run_load_part (P := P) (w := w) (k := k) (vs := vs) (h.row _ hm).2 hu hd hi hv
    unfold Oper.wp execOp
    simp only [ho, hx]
    rw [Sem.run_bind, h1]
    exact hKK _ _ hK
/-- 'copy' of cells into a row. -/
theorem wR_copy {d s : Operand} {dT sT elem t : TypeId} {g off dLen dCap sLen sCap : Nat} {ad : Addr} {cs : List Value} {cur new : Array Value} (hgd : o.guard = none) (ho : o.op = .call { callee := .builtin .copy, args := #[d, s], argTypes := #[dT, sT] }) (h : Rws B w0 w L)
    (hd : a.eval d = .slice (some ⟨g, off, none⟩) dLen dCap) (hs : a.eval s = .slice (some ad) sLen sCap) (hm : Pick L (g, cur, t) L') (hu : P.underlying dT = some (.slice elem)) (hsz : (P.info? elem).map (·.size) = some 1)
    (hn : cs.length = Nat.min sLen dLen) (hsrc : ∀ j v, cs[j]? = some v → w.cell? (ad.add j) = some v) (hfit : off + cs.length ≤ cur.size) (h1 : ∀ v ∈ cs, v.oneCell' = true) (hnew : (cur.toList.take off ++ (cs ++ cur.toList.drop (off + cs.length))).toArray = new)
    (hK : ∀ w', Rws B w0 w' ((g, new, t) :: L') → wpList P ops Q rest (a.put o.dst (goInt cs.length)) w') : wpList P ops Q (o :: rest) a w := by
  refine wpList_copy_own hgd d s dT sT ho elem hu hsz g off dLen dCap ad sLen sCap hd hs cur t (h.row _ hm.mem).2 cs hn hsrc hfit h1 ?_
  rw [hnew]
  exact hK _ (h.set hm new)

variable {S : StRow} {l : List Oper} {n : Nat} {Q' : Act → Prop}
/-- The address of a slice's element (of one cell). -/
theorem lexC_ixs {t : TypeId} {x y : Operand} {g off k len cap : Nat} {kd : IntKind} (ho : o.op = .indexAddr t x y) (hx : a.eval x = .slice (some ⟨g, off, none⟩) len cap) (hy : a.eval y = .int kd (k : Int)) (hu : P.underlying t = some (.slice (P.elem t))) (hs : (P.info? (P.elem t)).map (·.size) = some 1) (hk : k < len)
    (h : lexC P B w0 L S ops Q' n l (a.put o.dst (.pointer (some ⟨g, off + k, none⟩)))) (hwt : Region.wanted o (yielded ops a.tmps) = true := by rfl) : lexC P B w0 L S ops Q' (n + 1) (o :: l) a :=
  lexC_val (fun w => by
    have h0 : (sizeOf (P.elem t)).run P w = .ok 1 w := by
      cases hq : P.info? (P.elem t) with
      | none => simp [hq] at hs
      | some i =>
        have : i.size = 1 := by simpa [hq] using hs
        simp [sizeOf, typeInfo, hq, this, Sem.run_bind]
    have h1 : (Instr.indexAt t (.slice (some ⟨g, off, none⟩) len cap) (.int kd (k : Int))).run P w = .ok (.pointer (some ⟨g, off + k, none⟩)) w := by
      rw [run_indexAt_slice (h := hu), if_pos (by omega), h0]
      simp [Result.andThen, Addr.add_lit]
    unfold execOp
    simp only [ho, hx, hy]
    rw [Sem.run_bind, h1]
    rfl) h hwt (by rw [ho]; rfl)
theorem lexC_un {op : UnOp} {t : TypeId} {x : Operand} {u r : Value} (ho : o.op = .unOp op t x) (hx : a.eval x = u) (hr : ∀ w : World, (Op.unary op u).run P w = .ok r w)
    (h : lexC P B w0 L S ops Q' n l (a.put o.dst r)) (hwt : Region.wanted o (yielded ops a.tmps) = true := by rfl) : lexC P B w0 L S ops Q' (n + 1) (o :: l) a :=
  lexC_val (fun w => by
    unfold execOp
    simp only [ho, hx]
    rw [Sem.run_bind, hr w]
    rfl) h hwt (by rw [ho]; rfl)
theorem lexC_nil {x : Operand} {p : Addr} (ho : o.op = .nilCheck x) (hx : a.eval x = .pointer (some p))
    (h : lexC P B w0 L S ops Q' n l (a.put o.dst (.pointer (some p)))) (hwt : Region.wanted o (yielded ops a.tmps) = true := by rfl) : lexC P B w0 L S ops Q' (n + 1) (o :: l) a :=
  lexC_val (fun w => by
    unfold execOp
    simp only [ho, hx]
    rfl) h hwt (by rw [ho]; rfl)
/-- An array cut. -/
theorem lexC_cut {t : TypeId} {x : Operand} {lo hi : Option Operand} {v : Value} {p : Addr} {l0 h0 : Option Value} (ho : o.op = .slice t x lo hi none) (hx : a.eval x = .pointer (some p)) (hl : lo.map a.eval = l0) (hh : hi.map a.eval = h0) (hr : ∀ w : World, (Instr.sliceAt t (.pointer (some p)) l0 h0 none).run P w = .ok v w)
    (h : lexC P B w0 L S ops Q' n l (a.put o.dst v)) (hwt : Region.wanted o (yielded ops a.tmps) = true := by rfl) : lexC P B w0 L S ops Q' (n + 1) (o :: l) a :=
  lexC_val (fun w => by
    unfold execOp
    simp only [ho, hx, Option.map_none, hl, hh]
    rw [Sem.run_bind, hr w]
    rfl) h hwt (by rw [ho]; rfl)
end
/-- A cut of an array of cells. -/
theorem run_cutA {P : Program} {t : TypeId} {g k l h n : Nat} (ht : P.underlying t = some (.array (P.arrayLen t) (P.elem t))) (hn : P.arrayLen t = n) (hs : (P.info? (P.elem t)).map (·.size) = some 1) (h1 : l ≤ h) (h2 : h ≤ n) (h3 : l < n) (w : World) :
    (Instr.sliceAt t (.pointer (some ⟨g, k, none⟩)) (some (.int .i64 (l : Int))) (some (.int .i64 (h : Int))) none).run P w = .ok (.slice (some ⟨g, k + l, none⟩) (h - l) (n - l)) w := by
  rw [run_sliceAt_array_lh w t _ ht _ _ _ _ (by omega) (by omega) (by omega)]
  cases hq : P.info? (P.elem t) with
  | none => simp [hq] at hs
  | some i =>
    have : i.size = 1 := by simpa [hq] using hs
    have e : ¬ n = l := by omega
    simp [sizeOf, typeInfo, hq, this, Sem.run_bind, Result.andThen, slicedAt, hn, e, Addr.add_lit]
theorem run_cutAl {P : Program} {t : TypeId} {g k l n : Nat} (ht : P.underlying t = some (.array (P.arrayLen t) (P.elem t))) (hn : P.arrayLen t = n) (hs : (P.info? (P.elem t)).map (·.size) = some 1) (h3 : l < n) (w : World) :
    (Instr.sliceAt t (.pointer (some ⟨g, k, none⟩)) (some (.int .i64 (l : Int))) none none).run P w = .ok (.slice (some ⟨g, k + l, none⟩) (n - l) (n - l)) w := by
  rw [run_sliceAt_array_l w t _ ht _ _ (by omega) (by omega)]
  cases hq : P.info? (P.elem t) with
  | none => simp [hq] at hs
  | some i =>
    have : i.size = 1 := by simpa [hq] using hs
    have e : ¬ n = l := by omega
    simp [sizeOf, typeInfo, hq, this, Sem.run_bind, Result.andThen, slicedAt, hn, e, Addr.add_lit]
theorem run_cutAh {P : Program} {t : TypeId} {g k h n : Nat} (ht : P.underlying t = some (.array (P.arrayLen t) (P.elem t))) (hn : P.arrayLen t = n) (hs : (P.info? (P.elem t)).map (·.size) = some 1) (h2 : h ≤ n) (h3 : 0 < n) (w : World) :
    (Instr.sliceAt t (.pointer (some ⟨g, k, none⟩)) none (some (.int .i64 (h : Int))) none).run P w = .ok (.slice (some ⟨g, k, none⟩) h n) w := by
  rw [run_sliceAt_array_h w t _ ht _ _ (by omega) (by omega)]
  cases hq : P.info? (P.elem t) with
  | none => simp [hq] at hs
  | some i =>
    have : i.size = 1 := by simpa [hq] using hs
    have e : ¬ n = 0 := by omega
    simp [sizeOf, typeInfo, hq, this, Sem.run_bind, Result.andThen, slicedAt, hn, e, Addr.add_lit]

/-- The kind of 256 bits. -/
def kc32 : Array Value := #[.int .i64 32, .int .i64 7, .int .i64 18, .int .i64 3, .int .i64 17, .int .i64 19, .int .i64 10, .int .i64 6, .int .i64 11, .int .i64 25, .int .i64 2, .int .i64 13, .int .i64 22, .int .i64 64, .int .i64 32, .int .i64 8]
theorem kc32_p (k a b c : Nat) (h : (k = 1 ∧ a = 7 ∧ b = 18 ∧ c = 3) ∨ (k = 4 ∧ a = 17 ∧ b = 19 ∧ c = 10) ∨ (k = 7 ∧ a = 6 ∧ b = 11 ∧ c = 25) ∨ (k = 10 ∧ a = 2 ∧ b = 13 ∧ c = 22)) : ∀ j, j < (arr3 a b c).size → kc32[k + j]? = (arr3 a b c)[j]? := by
  intro j hj
  have hj : j < 3 := hj
  rcases h with ⟨rfl, rfl, rfl, rfl⟩ | ⟨rfl, rfl, rfl, rfl⟩ | ⟨rfl, rfl, rfl, rfl⟩ | ⟨rfl, rfl, rfl, rfl⟩ <;> rcases (by omega : j = 0 ∨ j = 1 ∨ j = 2) with rfl | rfl | rfl <;> rfl
theorem int3_info : (Tryz.prog.info? 97).map (·.size) = some 3 := by kernel_rfl
theorem w8_info : (Tryz.prog.info? 165).map (·.size) = some 8 := by kernel_rfl
theorem kind_info : (Tryz.prog.info? 163).map (·.size) = some 16 := by kernel_rfl
theorem w_info : (Tryz.prog.info? 60).map (·.size) = some 1 := by kernel_rfl
theorem isAgg_w : ∀ w : World, (isAgg 60).run Tryz.prog w = .ok false w := Tryz.isAgg60
theorem zero_w8 : ∀ w : World, (zeroValue 165).run Tryz.prog w = .ok (.agg (wc 8 fun _ => 0)) w := Tryz.zeroValue165
theorem run_subi {P : Program} {t : TypeId} {i c j : Nat} (h : j + c = i) (hi : i ≤ 4611686018427387904) (w : World) : (binOp .sub t (.int .i64 (i : Int)) (.int .i64 (c : Int))).run P w = .ok (.int .i64 (j : Int)) w := by
  have e : (j : Int) = IntKind.i64.wrap ((i : Int) - (c : Int)) := by rw [IntKind.wrap_i64]; omega
  rw [e]; rfl
theorem run_not32 {P : Program} {x : Nat} (hx : x < 4294967296) (w : World) : (Op.unary .xor (.int .u32 (x : Int))).run P w = .ok (.int .u32 ((4294967295 ^^^ x : Nat) : Int)) w := by
  rw [← u32_xor_nat 4294967295 x (by omega) hx]; rfl
end Go.Proofs.YtjkjlbchbbpmaaaGreatDoor
/- hash: make, cuts of slices, and loads out of what was there before the call. -/
namespace Go.Proofs.YtjkjlbchbbpmaaaGreatDoor
open Go.RowKit

section
variable {B : Nat} {w0 w w' : World} {L L' : List (Nat × Array Value × TypeId)}
variable {P : Program} {o : Oper} {a : Act} {Q : Exit → Act → World → Prop} {ops : Array Oper} {rest : List Oper}
theorem wc_zeros (n : Nat) : madeCells #[Value.int .u32 0] (n * 1) = wc n fun _ => 0 := by
  refine wc_ext (by simp [madeCells]) fun j hj => ?_
  rw [← Array.getElem?_toList, toList_madeCells_one, List.getElem?_replicate, if_pos (by omega)]
  rfl
/-- make([]uint32, n). -/
theorem wR_make (hgd : o.guard = none) (l c : Operand) (t : TypeId) (ho : o.op = .makeSlice t l c) (e : TypeId) (h1 : P.underlying t = some (.slice e))
    (h2 : (P.info? e).map (fun i => (i.zero, i.size, i.bytes)) = some (some (.int .u32 0), 1, 4)) (h : Rws B w0 w L) (kl kc : IntKind) (x y : Int) (n : Nat) (hl : a.eval l = .int kl x) (hc : a.eval c = .int kc y) (hx : x = (n : Int)) (hy : y = (n : Int)) (hn : n ≤ 4294967296)
    (hK : ∀ g w', Rws B w0 w' ((g, wc n (fun _ => 0), e) :: L) → wpList P ops Q rest (a.put o.dst (.slice (some ⟨g, 0, none⟩) n n)) w') : wpList P ops Q (o :: rest) a w := by
  subst hx hy
  obtain ⟨i, hi, hz0, hz1, hz2⟩ := info_parts h2
  have hr := run_make (P := P) w t e i (.int .u32 0) h1 hi hz0 kl kc (n : Int) (n : Int) (by omega) (Int.le_refl _) (by rw [hz2]; omega) (by omega)
  rw [hz1, show (Value.int IntKind.u32 0).cells = #[Value.int .u32 0] from rfl] at hr
  simp only [Int.toNat_natCast] at hr
  refine wpList_plain hgd fun K hKK => ?_
  unfold Oper.wp execOp
  simp only [ho, hl, hc]
  rw [Sem.run_bind, hr, wc_zeros n]
  exact hKK _ _ (hK _ _ (h.alloc _ e))
/-- A cut. -/
theorem wR_cut {t : TypeId} {x : Operand} {lo hi : Option Operand} {v u : Value} {l0 h0 : Option Value} (hgd : o.guard = none) (ho : o.op = .slice t x lo hi none) (hx : a.eval x = u) (hl : lo.map a.eval = l0) (hh : hi.map a.eval = h0) (hr : (Instr.sliceAt t u l0 h0 none).run P w = .ok v w)
    (hK : wpList P ops Q rest (a.put o.dst v) w) : wpList P ops Q (o :: rest) a w :=
  wpList_plain hgd fun K hKK => by
    unfold Oper.wp execOp
    simp only [ho, hx, Option.map_none, hl, hh]
    rw [Sem.run_bind, hr]
    exact hKK _ _ hK
variable {S : StRow} {l : List Oper} {n : Nat} {Q' : Act → Prop}
/-- One cell of what was there before. -/
theorem lexC_old {t : TypeId} {x : Operand} {g k : Nat} {v : Value} (ho : o.op = .load t x) (hx : a.eval x = .pointer (some ⟨g, k, none⟩)) (hg : g < B) (hc : w0.cell? ⟨g, k, none⟩ = some v) (hag : ∀ w : World, (isAgg t).run P w = .ok false w)
    (h : lexC P B w0 L S ops Q' n l (a.put o.dst v)) (hwt : Region.wanted o (yielded ops a.tmps) = true := by rfl) : lexC P B w0 L S ops Q' (n + 1) (o :: l) a :=
  ⟨v, fun _ _ _ w hw => by
    have hcell : w.cell? ⟨g, k, none⟩ = some v := (hw.below.cell (p := ⟨g, k, none⟩) hg).trans hc
    have h1 : (Instr.loadAt t (.pointer (some ⟨g, k, none⟩))).run P w = .ok v w := by
      simp [Instr.loadAt, Instr.sureAddr, loadVar, Sem.run_bind, hag, run_load, hcell]
    have h2 : (execOp a.eval o).run P w = .ok (.value v) w := by
      unfold execOp
      simp only [ho, hx]
      rw [Sem.run_bind, h1]
      rfl
    rw [h2]; exact ⟨rfl, rfl⟩, fun h0 => absurd (hwt.symm.trans h0) (by decide), fun hs => (by rw [ho] at hs; cases hs), h⟩
end
/-- A slice cut. -/
theorem run_cutS {P : Program} {t : TypeId} {g k len cap l h : Nat} (ht : P.underlying t = some (.slice (P.elem t))) (hs : (P.info? (P.elem t)).map (·.size) = some 1) (h1 : l ≤ h) (h2 : h ≤ cap) (h3 : l < cap) (w : World) :
    (Instr.sliceAt t (.slice (some ⟨g, k, none⟩) len cap) (some (.int .i64 (l : Int))) (some (.int .i64 (h : Int))) none).run P w = .ok (.slice (some ⟨g, k + l, none⟩) (h - l) (cap - l)) w := by
  rw [run_sliceAt_slice (h := ht), run_slice_lh (ht := ht) (h0 := by omega) (h1 := by omega) (h2 := by omega)]
  cases hq : P.info? (P.elem t) with
  | none => simp [hq] at hs
  | some i =>
    have : i.size = 1 := by simpa [hq] using hs
    have e : ¬ cap = l := by omega
    simp [sizeOf, typeInfo, hq, this, Sem.run_bind, Result.andThen, sliced, e, Addr.add_lit]
theorem kF_lt (j : Nat) : kF j < 4294967296 := by
  unfold kF
  by_cases hj : j < 64
  · have h : ∀ j, j < 64 → kRoots.getD j 0 < 4294967296 := by decide +kernel
    exact h j hj
  · rw [List.getD_eq_getElem?_getD, List.getElem?_eq_none (by rw [kRoots_size]; omega)]; exact (by omega : (0 : Nat) < 4294967296)
end Go.Proofs.YtjkjlbchbbpmaaaGreatDoor
/- hash: a sum's state as a row of cells; what Write makes of it, plain. -/
namespace Go.Proofs.YtjkjlbchbbpmaaaGreatDoor
open Go.RowKit

/-- A row by a function. -/
def rowF (n : Nat) (F : Nat → Value) : Array Value := ((List.range n).map F).toArray
theorem rowF_size (n : Nat) (F : Nat → Value) : (rowF n F).size = n := by simp [rowF]
theorem rowF_get {n j : Nat} (F : Nat → Value) (h : j < n) : (rowF n F)[j]? = some (F j) := by simp [rowF, h]
theorem rowF_ext {n : Nat} {F : Nat → Value} {cs : Array Value} (hs : cs.size = n) (h : ∀ j, j < n → cs[j]? = some (F j)) : cs = rowF n F := by
  apply Array.ext_getElem?
  intro j
  by_cases hj : j < n
  · rw [h j hj, rowF_get F hj]
  · rw [Array.getElem?_eq_none (by omega), Array.getElem?_eq_none (by rw [rowF_size]; omega)]
theorem rowF_cells {n : Nat} {F : Nat → Value} (h : ∀ j, j < n → (F j).oneCell' = true) : (rowF n F).all (·.oneCell') = true := by
  rw [Array.all_eq_true]
  intro i hi
  rw [rowF_size] at hi
  have e := rowF_get F hi
  rw [Array.getElem?_eq_getElem (by rw [rowF_size]; exact hi)] at e
  rw [Option.some.inj e]
  exact h i hi
/-- Cells laid over a row. -/
theorem rowF_lay {n k : Nat} {F G : Nat → Value} {vs : List Value} (hk : k + vs.length ≤ n) (h1 : ∀ j, j < vs.length → vs[j]? = some (G (k + j))) (h2 : ∀ j, j < n → j < k ∨ k + vs.length ≤ j → F j = G j) :
    ((rowF n F).toList.take k ++ vs ++ (rowF n F).toList.drop (k + vs.length)).toArray = rowF n G := by
  have hl : (rowF n F).toList.length = n := by simp [rowF]
  have hg : ∀ j, j < n → (rowF n F).toList[j]? = some (F j) := fun j hj => by rw [Array.getElem?_toList]; exact rowF_get F hj
  refine rowF_ext (by simp [hl]; omega) fun j hj => ?_
  rw [List.getElem?_toArray, List.append_assoc]
  by_cases a : j < k
  · rw [List.getElem?_append_left (by rw [List.length_take, hl]; omega), List.getElem?_take, if_pos a, hg j hj, h2 j hj (Or.inl a)]
  · rw [List.getElem?_append_right (by rw [List.length_take, hl]; omega), List.length_take, hl, Nat.min_eq_left (by omega)]
    by_cases b : j < k + vs.length
    · rw [List.getElem?_append_left (by omega), h1 (j - k) (by omega), show k + (j - k) = j by omega]
    · rw [List.getElem?_append_right (by omega), List.getElem?_drop, show k + vs.length + (j - k - vs.length) = j by omega, hg j hj, h2 j hj (Or.inr (by omega))]

/-- A sum under way: its numbers, its block, how much was written. -/
def hF (v bl : Nat → Nat) (n : Nat) : Nat → Value := fun j => if j < 16 then kc32.getD j undef else if j < 24 then .int .u32 ((v (j - 16) : Nat) : Int) else if j < 32 then .int .u64 0 else if j < 160 then .int .u8 ((bl (j - 32) : Nat) : Int) else .int .i64 (n : Int)
def hc (v bl : Nat → Nat) (n : Nat) : Array Value := rowF 161 (hF v bl n)
theorem hc_size (v bl : Nat → Nat) (n : Nat) : (hc v bl n).size = 161 := rowF_size _ _
theorem hc_n (v bl : Nat → Nat) (n : Nat) : (hc v bl n)[160]? = some (.int .i64 (n : Int)) := rowF_get _ (by omega)
theorem hc_k (v bl : Nat → Nat) (n : Nat) : ∀ j, j < kc32.size → (hc v bl n)[0 + j]? = kc32[j]? := by
  intro j hj
  have hj : j < 16 := hj
  rw [Nat.zero_add, hc, rowF_get _ (by omega), hF, if_pos hj]
  simp [Array.getD, show j < kc32.size from hj]
theorem hc_v (v bl : Nat → Nat) (n : Nat) : ∀ j, j < (wc 8 v).size → (hc v bl n)[16 + j]? = (wc 8 v)[j]? := by
  intro j hj
  rw [wc_size] at hj
  rw [wc_get v hj, hc, rowF_get _ (by omega), hF, if_neg (by omega), if_pos (by omega), show 16 + j - 16 = j by omega]
theorem hc_b (v bl : Nat → Nat) (n j : Nat) (hj : j < 128) : (hc v bl n)[32 + j]? = some (.int .u8 ((bl j : Nat) : Int)) := by
  rw [hc, rowF_get _ (by omega), hF, if_neg (by omega), if_neg (by omega), if_neg (by omega), if_pos (by omega), show 32 + j - 32 = j by omega]
theorem kc32_one : ∀ j, j < 16 → (kc32.getD j undef).oneCell' = true := by decide +kernel
theorem hF_one (v bl : Nat → Nat) (n j : Nat) : (hF v bl n j).oneCell' = true := by
  unfold hF
  split
  · rename_i h; exact kc32_one j h
  · split
    · rfl
    · split
      · rfl
      · split <;> rfl
theorem hc_cells (v bl : Nat → Nat) (n : Nat) : (hc v bl n).all (·.oneCell') = true := rowF_cells fun j _ => hF_one v bl n j
theorem hc_setn (v bl : Nat → Nat) (n m : Nat) : (hc v bl n).setIfInBounds 160 (.int .i64 (m : Int)) = hc v bl m := by
  refine rowF_ext (by rw [Array.size_setIfInBounds, hc_size]) fun j hj => ?_
  by_cases e : 160 = j
  · subst e
    rw [Array.getElem?_setIfInBounds_self_of_lt (by rw [hc_size]; omega)]
    rfl
  · rw [Array.getElem?_setIfInBounds_ne e, hc, rowF_get _ hj]
    congr 1
    unfold hF
    by_cases a : j < 16
    · rw [if_pos a, if_pos a]
    · by_cases b : j < 24
      · rw [if_neg a, if_neg a, if_pos b, if_pos b]
      · by_cases c : j < 32
        · rw [if_neg a, if_neg a, if_neg b, if_neg b, if_pos c, if_pos c]
        · have d : j < 160 := by omega
          rw [if_neg a, if_neg a, if_neg b, if_neg b, if_neg c, if_neg c, if_pos d, if_pos d]
theorem hc_setv (v bl : Nat → Nat) (n : Nat) (u : Nat → Nat) : ((hc v bl n).toList.take 16 ++ (wc 8 u).toList ++ (hc v bl n).toList.drop (16 + (wc 8 u).toList.length)).toArray = hc u bl n := by
  have hl : (wc 8 u).toList.length = 8 := by rw [Array.length_toList, wc_size]
  refine rowF_lay (by omega) (fun j hj => ?_) (fun j hj h => ?_)
  · rw [hl] at hj
    rw [Array.getElem?_toList, wc_get u hj, hF, if_neg (by omega), if_pos (by omega), show 16 + j - 16 = j by omega]
  · unfold hF
    rw [hl] at h
    by_cases a : j < 16
    · rw [if_pos a, if_pos a]
    · have b : ¬ j < 24 := by omega
      rw [if_neg a, if_neg a, if_neg b, if_neg b]
/-- m bytes laid into the block. -/
def layB (bl r : Nat → Nat) (a m : Nat) : Nat → Nat := fun j => if a ≤ j ∧ j < a + m then r (j - a) else bl j
theorem hc_setb (v bl r : Nat → Nat) (n a m : Nat) (vs : List Value) (hvl : vs.length = m) (hvs : ∀ j, j < m → vs[j]? = some (.int .u8 ((r j : Nat) : Int))) (hm : a + m ≤ 128) :
    ((hc v bl n).toList.take (32 + a) ++ vs ++ (hc v bl n).toList.drop (32 + a + vs.length)).toArray = hc v (layB bl r a m) n := by
  refine rowF_lay (by omega) (fun j hj => ?_) (fun j hj h => ?_)
  · rw [hvs j (by omega), hF, if_neg (by omega), if_neg (by omega), if_neg (by omega), if_pos (by omega)]
    unfold layB
    rw [if_pos (by omega), show 32 + a + j - 32 - a = j by omega]
  · unfold hF layB
    by_cases b : j < 16
    · rw [if_pos b, if_pos b]
    · by_cases c : j < 24
      · rw [if_neg b, if_neg b, if_pos c, if_pos c]
      · by_cases d : j < 32
        · rw [if_neg b, if_neg b, if_neg c, if_neg c, if_pos d, if_pos d]
        · rw [if_neg b, if_neg b, if_neg c, if_neg c, if_neg d, if_neg d]
          by_cases e : j < 160
          · rw [if_pos e, if_pos e, if_neg (by omega)]
          · rw [if_neg e, if_neg e]

/-- n bytes of the text M were written. -/
structure HSt (M : Nat → Nat) (n : Nat) (v bl : Nat → Nat) : Prop where
  st : v = fold32 firstF M (n / 64)
  blk : ∀ j, j < n % 64 → bl j = M (64 * (n / 64) + j)
theorem firstF_lt (j : Nat) : firstF j < 4294967296 := by
  by_cases hj : j < 8
  · have h : ∀ j, j < 8 → firstF j < 4294967296 := by decide
    exact h j hj
  · unfold firstF
    rw [List.getD_eq_getElem?_getD, List.getElem?_eq_none (by simp; omega)]
    exact (by omega : (0 : Nat) < 4294967296)
theorem HSt.lt {M : Nat → Nat} {n : Nat} {v bl : Nat → Nat} (h : HSt M n v bl) (j : Nat) : v j < 4294967296 := by
  rw [h.st]; exact fold32_lt firstF_lt M _ j
theorem HSt.zero (M bl : Nat → Nat) : HSt M 0 firstF bl := ⟨rfl, fun j hj => absurd hj (Nat.not_lt_zero j)⟩
/-- Some bytes more, less than fill the block. -/
theorem HSt.more {M : Nat → Nat} {n m : Nat} {v bl r : Nat → Nat} (h : HSt M n v bl) (hm : n % 64 + m < 64) (hr : ∀ j, j < m → r j = M (n + j)) : HSt M (n + m) v (layB bl r (n % 64) m) := by
  have e : (n + m) / 64 = n / 64 := by omega
  have e2 : (n + m) % 64 = n % 64 + m := by omega
  refine ⟨by rw [e]; exact h.st, fun j hj => ?_⟩
  rw [e2] at hj
  rw [e]
  unfold layB
  by_cases a : n % 64 ≤ j
  · rw [if_pos ⟨a, hj⟩, hr _ (by omega)]
    congr 1; omega
  · rw [if_neg (by omega)]; exact h.blk j (by omega)
/-- The bytes that fill the block. -/
theorem HSt.full {M : Nat → Nat} {n m : Nat} {v bl r : Nat → Nat} (h : HSt M n v bl) (hm : n % 64 + m = 64) (hr : ∀ j, j < m → r j = M (n + j)) (bl' : Nat → Nat) : HSt M (n + m) (next32 v (layB bl r (n % 64) m)) bl' := by
  have e : (n + m) / 64 = n / 64 + 1 := by omega
  have e2 : (n + m) % 64 = 0 := by omega
  refine ⟨?_, fun j hj => absurd hj (by omega)⟩
  rw [e]
  show _ = next32 (fold32 firstF M (n / 64)) _
  rw [← h.st]
  refine next32_congr _ fun j hj => ?_
  unfold layB
  by_cases a : n % 64 ≤ j
  · rw [if_pos (by omega), hr _ (by omega)]
    congr 1; omega
  · rw [if_neg (by omega)]; exact h.blk j (by omega)
theorem layB_lt {bl r : Nat → Nat} (hb : ∀ j, bl j < 256) (hr : ∀ j, r j < 256) (a m j : Nat) : layB bl r a m j < 256 := by
  unfold layB; split
  · exact hr _
  · exact hb _
end Go.Proofs.YtjkjlbchbbpmaaaGreatDoor
/- hash: New of 256 bits. -/
namespace Go.Proofs.YtjkjlbchbbpmaaaGreatDoor
open Go.RowKit

section
variable {B : Nat} {w0 w : World} {L : List (Nat × Array Value × TypeId)}
variable {P : Program} {o : Oper} {a : Act} {Q : Exit → Act → World → Prop} {ops : Array Oper} {rest : List Oper}
/-- A struct or an array, built. -/
theorem wR_build {t : TypeId} {xs : List (Nat × Operand)} {cs : Array Value} (hgd : o.guard = none) (ho : o.op = .build t xs.toArray) (hb : P.built t (xs.map fun p => (p.1, a.eval p.2)) = some cs)
    (hK : wpList P ops Q rest (a.put o.dst (.agg cs)) w) : wpList P ops Q (o :: rest) a w :=
  wpList_plain hgd fun K hKK => by
    have h1 : (Instr.build t (xs.toArray.map fun p => (p.1, a.eval p.2))).run P w = .ok (.agg cs) w := run_build w t _ cs (by simpa using hb)
    unfold Oper.wp execOp
    simp only [ho]
    rw [Sem.run_bind, h1]
    exact hKK _ _ hK
end
theorem built_kind : Tryz.prog.built 163 [(0, .int .i64 32), (1, .agg (arr3 7 18 3)), (2, .agg (arr3 17 19 10)), (3, .agg (arr3 6 11 25)), (4, .agg (arr3 2 13 22)), (5, .int .i64 64), (6, .int .i64 32), (7, .int .i64 8)] = some kc32 := by kernel_rfl
theorem built_hash : Tryz.prog.built 169 [(0, .agg kc32), (1, .agg (wc 8 firstF))] = some (hc firstF (fun _ => 0) 0) := by kernel_rfl
theorem hash_info : (Tryz.prog.info? 169).map (·.size) = some 161 := by kernel_rfl

set_option maxRecDepth 100000 in
theorem kind32_any (w : World) : Calls Tryz.prog 120 #[] w fun e w' => e = .returned (.agg kc32) ∧ Below w.heap.size w w' := by
  have hR0 := Rws.start w
  go_enter Tryz.func120, Tryz.ntmps120
  go_wp2_with (first
    | (refine wpList_alloc_rws rfl _ (by rfl) (by assumption) _ Tryz.zeroValue163 ?_; intro gr w1 hR)
    | (refine wpList_store_rws rfl _ _ _ (by rfl) (by assumption) _ rfl kc32 (by rfl) _ _ _ (by repeat (first | exact Pick.here | apply Pick.there)) kind_info (by rfl) (by decide +kernel) ?_; intro w2 hR2))
  exact bodyPost_rws Tryz.results120 hR2 _ rfl _ _ (List.Mem.head _) _ Tryz.underlying163 rfl kind_info rfl fun hb => ⟨rfl, hb⟩

set_option maxRecDepth 100000 in
set_option maxHeartbeats 800000 in
theorem new_any (w : World) : Calls Tryz.prog 87 #[.int .i64 0] w fun e w' => ∃ g, e = .returned (.tuple #[.pointer (some ⟨g, 0, none⟩), .int .i64 0]) ∧ Rws w.heap.size w w' [(g, hc firstF (fun _ => 0) 0, 169)] := by
  have hR0 := Rws.start w
  go_enter Tryz.func87, Tryz.ntmps87
  go_wp2_with fail
  refine (kind32_any _).mono ?_
  rintro e w1 ⟨rfl, hb⟩
  have hR1 := hR0.call hb
  clear hb hR0
  go_wp2_with (first
    | (refine wR_build (cs := hc firstF (fun _ => 0) 0) rfl rfl built_hash ?_)
    | (refine wpList_box_rws rfl _ _ (by rfl) (by assumption) _ rfl ?_; intro g w2 hR))
  go_ret2
  exact ⟨g, rfl, hR⟩
end Go.Proofs.YtjkjlbchbbpmaaaGreatDoor
