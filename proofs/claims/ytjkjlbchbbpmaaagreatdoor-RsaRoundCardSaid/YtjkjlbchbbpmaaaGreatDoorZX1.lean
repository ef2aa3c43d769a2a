/- THexP THex GSteps, in one text. -/
import Derived.Test.YtjkjlbchbbpmaaaGreatDoorZK1
import Derived.Test.YtjkjlbchbbpmaaaGreatDoorZH3
import Derived.Test.YtjkjlbchbbpmaaaGreatDoorZR0
import Derived.Test.YtjkjlbchbbpmaaaGreatDoorZQSteps
import Derived.StillTailTactics
import Derived.IntWalk
import Derived.Test.YtjkjlbchbbpmaaaGreatDoorZS
/- Digits of base sixteen, their bits and their bytes: plain. -/
namespace Go.Proofs.YtjkjlbchbbpmaaaGreatDoor
open Go.RowKit

def hex16 : ByteArray := ⟨#[48, 49, 50, 51, 52, 53, 54, 55, 56, 57, 97, 98, 99, 100, 101, 102]⟩
def dig (n : Nat) : Nat := if n < 10 then 48 + n else 87 + n
theorem dig_lt {n : Nat} (h : n < 16) : dig n < 256 := by unfold dig; split <;> omega
theorem dig_inj {a b : Nat} (ha : a < 16) (hb : b < 16) (h : dig a = dig b) : a = b := by
  unfold dig at h; split at h <;> split at h <;> omega
theorem hex16_at : ∀ (k : Nat) (h : k < 16), (hex16[k]'h).toNat = dig k := by decide

/-- The k-th half byte. -/
def nb (s : ByteArray) (k : Nat) : Nat := let c := (s.data.toList.getD (k / 2) 0).toNat; if k % 2 = 0 then c / 16 else c % 16
theorem nb_lt (s : ByteArray) (k : Nat) : nb s k < 16 := by
  have h : (s.data.toList.getD (k / 2) 0).toNat < 256 := UInt8.toNat_lt _
  unfold nb
  show (if k % 2 = 0 then _ / 16 else _ % 16) < 16
  split <;> omega
/-- The first half bytes' digits. -/
def hxL (s : ByteArray) (m : Nat) : List UInt8 := (List.range m).map fun k => UInt8.ofNat (dig (nb s k))
theorem hxL_length (s : ByteArray) (m : Nat) : (hxL s m).length = m := by simp [hxL]
theorem hxL_succ (s : ByteArray) (m : Nat) : hxL s (m + 1) = hxL s m ++ [UInt8.ofNat (dig (nb s m))] := by simp [hxL, List.range_succ]
def hxS (s : ByteArray) : ByteArray := ⟨(hxL s (2 * s.size)).toArray⟩
theorem hxS_size (s : ByteArray) : (hxS s).size = 2 * s.size := by unfold hxS; rw [str_size, hxL_length]
theorem hxS_at (s : ByteArray) (k : Nat) (h : k < (hxS s).size) : ((hxS s)[k]'h).toNat = dig (nb s k) := by
  have h2 : (hxS s)[k]'h = UInt8.ofNat (dig (nb s k)) := by
    show ((hxL s (2 * s.size)).toArray)[k]'_ = _
    simp [hxL]
  rw [h2]
  have := dig_lt (nb_lt s k)
  show dig (nb s k) % 256 = _
  omega
/-- The first bits. -/
def btL (s : ByteArray) (m : Nat) : List Nat := (List.range m).map fun t => nb s (t / 4) / 2 ^ (3 - t % 4) % 2
theorem btL_length (s : ByteArray) (m : Nat) : (btL s m).length = m := by simp [btL]
theorem btL_succ (s : ByteArray) (m : Nat) : btL s (m + 1) = btL s m ++ [nb s (m / 4) / 2 ^ (3 - m % 4) % 2] := by simp [btL, List.range_succ]
theorem btL_at (s : ByteArray) (m k : Nat) (h : k < m) : (btL s m)[k]? = some (nb s (k / 4) / 2 ^ (3 - k % 4) % 2) := by
  simp [btL, h]
/-- The first j bits of the k-th byte. -/
theorem byte_bit (s : ByteArray) (k j : Nat) (h : j < 8) (c : Nat) (hc : c = (s.data.toList.getD k 0).toNat) :
    2 * (c / 2 ^ (8 - j)) + nb s ((8 * k + j) / 4) / 2 ^ (3 - (8 * k + j) % 4) % 2 = c / 2 ^ (8 - (j + 1)) := by
  have e0 : ∀ j, j < 4 → nb s ((8 * k + j) / 4) = c / 16 := fun j hj => by
    have h1 : (8 * k + j) / 4 = 2 * k := by omega
    have h2 : 2 * k / 2 = k := by omega
    have h3 : 2 * k % 2 = 0 := by omega
    simp only [nb, h1, h2, h3, hc, if_true]
  have e1 : ∀ j, 4 ≤ j → j < 8 → nb s ((8 * k + j) / 4) = c % 16 := fun j h4 hj => by
    have h1 : (8 * k + j) / 4 = 2 * k + 1 := by omega
    have h2 : (2 * k + 1) / 2 = k := by omega
    have h3 : ¬ (2 * k + 1) % 2 = 0 := by omega
    simp only [nb, h1, h2, hc, if_neg h3]
  have hlt : c < 256 := by rw [hc]; exact UInt8.toNat_lt _
  have em : (8 * k + j) % 4 = j % 4 := by omega
  rw [em]
  rcases (by omega : j = 0 ∨ j = 1 ∨ j = 2 ∨ j = 3 ∨ j = 4 ∨ j = 5 ∨ j = 6 ∨ j = 7) with rfl | rfl | rfl | rfl | rfl | rfl | rfl | rfl
  all_goals first | rw [e0 _ (by omega)] | rw [e1 _ (by omega) (by omega)]
  all_goals simp only [Nat.reduceSub, Nat.reduceMod, Nat.reduceAdd, Nat.reducePow]; omega
def upL (s : ByteArray) (k : Nat) : List UInt8 := s.data.toList.take k
theorem upL_succ (s : ByteArray) (k : Nat) (h : k < s.size) : upL s (k + 1) = upL s k ++ [s.data.toList.getD k 0] := by
  have h2 : k < s.data.toList.length := by rw [list_size]; exact h
  unfold upL
  rw [List.take_add_one, List.getElem?_eq_getElem h2]
  simp [List.getD, List.getElem?_eq_getElem h2]
theorem upL_all (s : ByteArray) : (⟨(upL s s.size).toArray⟩ : ByteArray) = s := by
  unfold upL
  rw [List.take_of_length_le (by rw [list_size]; exact Nat.le_refl _)]
end Go.Proofs.YtjkjlbchbbpmaaaGreatDoor
/- The reference's place and Hex (layer 1): the walks. -/
namespace Go.Proofs.YtjkjlbchbbpmaaaGreatDoor
open Go.RowKit

theorem hex16_index (k : Nat) (h : k < 16) (W : World) : (Instr.index 9 (.string hex16) (.int .i64 (k : Int))).run Tryz.prog W = .ok (.int .u8 ((dig k : Nat) : Int)) W := by
  have hp : k < hex16.size := h
  simp [Instr.index, asIntOf, run_underlying Tryz.underlying9, getElem?_pos hex16 k hp]
  exact_mod_cast hex16_at k h
theorem hex16_index8 (k : Nat) (h : k < 16) (W : World) : (Instr.index 9 (.string hex16) (.int .u8 (k : Int))).run Tryz.prog W = .ok (.int .u8 ((dig k : Nat) : Int)) W := by
  have hp : k < hex16.size := h
  simp [Instr.index, asIntOf, run_underlying Tryz.underlying9, getElem?_pos hex16 k hp]
  exact_mod_cast hex16_at k h

set_option maxRecDepth 100000 in
theorem place_any (n : Nat) (hn : n < 16) (w : World) :
    Calls Tryz.prog 109 #[.string hex16, .int .u8 ((dig n : Nat) : Int)] w fun e w' => e = .returned (.int .i64 (n : Int)) ∧ w = w' := by
  obtain ⟨d, hd⟩ : ∃ d, d = dig n := ⟨_, rfl⟩
  obtain ⟨hx, hhx⟩ : ∃ hx, hx = hex16 := ⟨_, rfl⟩
  have hsz : (hx.size : Int) = 16 := by rw [hhx]; rfl
  have hix : ∀ k : Nat, k < 16 → ∀ W : World, (Instr.index 9 (.string hx) (.int .i64 (k : Int))).run Tryz.prog W = .ok (.int .u8 ((dig k : Nat) : Int)) W := fun k h W => by rw [hhx]; exact hex16_index k h W
  rw [← hd, ← hhx]
  have HD := Lib.hid hd; have HIX := Lib.hid hix; have HS := Lib.hid hsz
  clear hd hhx hix hsz
  have hsz := HS.out
  go_enter Tryz.func109, Tryz.ntmps109
  go_upto_region 2 with fail
  go_loop [5] (fun v => ∃ k : Nat, k ≤ n ∧ v = .int .i64 k) (fun v => 16 - (intOf v).toNat)
  case atStart => exact ⟨0, Nat.zero_le _, rfl⟩
  case round =>
    obtain ⟨k, hk, rfl⟩ := hrel
    have hk16 : k < 16 := by omega
    have hkx := HIX.out k hk16
    by_cases e : k = n
    · have heq : ((dig k : Nat) : Int) = (d : Int) := by rw [HD.out, e]
      obtain ⟨c, hc⟩ : ∃ c, c = dig k := ⟨_, rfl⟩
      rw [← hc] at hkx heq
      have heb : ((c : Int) == (d : Int)) = true := by rw [beq_iff_eq]; exact heq
      clear hc heq
      have E := Lib.hid e
      clear e
      go_wp2_with fail
      go_ret
      exact ⟨ret_int (by rw [E.out]), rfl⟩
    · obtain ⟨c, hc⟩ : ∃ c, c = dig k := ⟨_, rfl⟩
      have heb : ((c : Int) == (d : Int)) = false := by
        rw [beq_eq_false_iff_ne]
        intro h
        exact e (dig_inj hk16 hn (by rw [← hc, ← HD.out]; omega))
      rw [← hc] at hkx
      clear hc
      go_wp2_with fail
      go_round
      case rel => exact ⟨k + 1, by omega, by go_num⟩
      case measure => simp [intOf]; omega

/-- 'append(b, x, y)' in a soft region: a slice of two bytes in a new block. -/
def Two (u v : Value) : Prd := fun w x => ∃ g, x = .slice (some ⟨g, 0, none⟩) 2 2 ∧ w.heap[g]? = some (.cells #[u, v] 5 (0, 0))
theorem stb_two (u v : Value) : Stb (Two u v) := fun w w' x hb ⟨g, hx, hg⟩ => ⟨g, hx, by rw [hb.block g (by have := (Array.getElem?_eq_some_iff.1 hg).1; omega)]; exact hg⟩
section
variable {B : Nat} {w0 ws : World} {L : List (Nat × Array Value × TypeId)} {a0 : Act} {K : Act → World → Prop} {n : Nat} {l : List Oper} {o : Oper} {Γ : Env}
theorem s_two {x y : Operand} {v u r : Value} (hm : x ∈ o.op.operands) (hm2 : y ∈ o.op.operands) (hx : Has ws a0 Γ x (Is v)) (hy : Has ws a0 Γ y (Is u))
    (hr : ∀ (w : World) (e : Operand → Value), e x = v → e y = u → (execOp e o).run Tryz.prog w = .ok (.value r) w)
    (h : softW Tryz.prog B w0 ws L a0 K n l ((o.dst, Is r) :: Γ)) : softW Tryz.prog B w0 ws L a0 K (n + 1) (o :: l) Γ :=
  s_any (stb_is _) (fun w e _ hb hat => by
    have h1 : e x = v := hx w _ hb (hat x hm)
    have h2 : e y = u := hy w _ hb (hat y hm2)
    rw [hr w e h1 h2]
    exact ⟨rfl, Below.refl _ _⟩) h
/-- A string's byte. -/
theorem s_ixs {x y : Operand} {s : ByteArray} {k : IntKind} {i c : Int} (ho : o.op = .index 9 x y) (hx : Has ws a0 Γ x (Is (.string s))) (hy : Has ws a0 Γ y (Is (.int k i)))
    (hr : ∀ W : World, (Instr.index 9 (.string s) (.int k i)).run Tryz.prog W = .ok (.int .u8 c) W)
    (h : softW Tryz.prog B w0 ws L a0 K n l ((o.dst, Is (.int .u8 c)) :: Γ)) : softW Tryz.prog B w0 ws L a0 K (n + 1) (o :: l) Γ :=
  s_two (x := x) (y := y) (by rw [ho]; exact Array.mem_def.2 (List.Mem.head _)) (by rw [ho]; exact Array.mem_def.2 (List.Mem.tail _ (List.Mem.head _))) hx hy (fun w e h1 h2 => by
    unfold execOp
    simp only [ho, h1, h2]
    rw [Sem.run_bind, hr w]
    rfl) h
/-- A sum, a quotient .. of two numbers. -/
theorem s_bin {x y : Operand} {b : BinOp} {t t2 : TypeId} {v u r : Value} (ho : o.op = .binOp b t x y t2) (hx : Has ws a0 Γ x (Is v)) (hy : Has ws a0 Γ y (Is u)) (hg : eqGuard b t x y v u = pure ())
    (hr : ∀ W : World, (binOp b t v u).run Tryz.prog W = .ok r W)
    (h : softW Tryz.prog B w0 ws L a0 K n l ((o.dst, Is r) :: Γ)) : softW Tryz.prog B w0 ws L a0 K (n + 1) (o :: l) Γ :=
  s_two (x := x) (y := y) (by rw [ho]; exact Array.mem_def.2 (List.Mem.head _)) (by rw [ho]; exact Array.mem_def.2 (List.Mem.tail _ (List.Mem.head _))) hx hy (fun w e h1 h2 => by
    unfold execOp
    simp only [ho, h1, h2]
    rw [hg, Sem.run_bind, Sem.run_bind, Sem.run_pure]
    show ((binOp b t v u).run Tryz.prog w).andThen _ = _
    rw [hr w]
    rfl) h
/-- A slice of two bytes. -/
theorem s_sl2 {x y : Operand} {u v : Int} (ho : o.op = .buildSlice 46 2 #[(0, x), (1, y)]) (hx : Has ws a0 Γ x (Is (.int .u8 u))) (hy : Has ws a0 Γ y (Is (.int .u8 v)))
    (h : softW Tryz.prog B w0 ws L a0 K n l ((o.dst, Two (.int .u8 u) (.int .u8 v)) :: Γ)) : softW Tryz.prog B w0 ws L a0 K (n + 1) (o :: l) Γ :=
  s_any (stb_two _ _) (fun w e _ hb hat => by
    have h1 : e x = .int .u8 u := hx w _ hb (hat x (by rw [ho]; exact Array.mem_def.2 (List.Mem.head _)))
    have h2 : e y = .int .u8 v := hy w _ hb (hat y (by rw [ho]; exact Array.mem_def.2 (List.Mem.tail _ (List.Mem.head _))))
    obtain ⟨i, hi, hz0, hz1, hz2⟩ := info_parts info8
    have h3 : (Instr.buildSlice 46 2 #[(0, Value.int .u8 u), (1, Value.int .u8 v)]).run Tryz.prog w = .ok (.slice (some ⟨w.heap.size, 0, none⟩) 2 2) (w.alloc (.cells #[.int .u8 u, .int .u8 v] 5)) :=
      run_buildSlice w _ _ 2 _ _ i (.int .u8 0) Tryz.underlying46 hi hz0 (by rw [hz1]; decide) (by rw [hz1]; decide) (by rw [hz1]; kernel_rfl)
    unfold execOp
    simp only [ho]
    have h4 : (Instr.buildSlice 46 2 ((#[(0, x), (1, y)] : Array (Nat × Operand)).map fun p => (p.1, e p.2))).run Tryz.prog w = .ok (.slice (some ⟨w.heap.size, 0, none⟩) 2 2) (w.alloc (.cells #[.int .u8 u, .int .u8 v] 5)) := by
      rw [← h3]; simp [h1, h2]
    rw [Sem.run_bind, h4]
    exact ⟨⟨_, rfl, heap_alloc_new w _⟩, (Below.refl _ _).alloc (Nat.le_refl _) _⟩) h
end
theorem Two.news {w : World} {g x y : Nat} {cs : List UInt8} (hg : w.heap[g]? = some (.cells #[.int .u8 (x : Int), .int .u8 (y : Int)] 5 (0, 0))) (hc : (cs.map fun c => Value.int .u8 (c.toNat : Nat)) = [.int .u8 (x : Int), .int .u8 (y : Int)]) :
    ∀ (j : Nat) (u : Value), (cs.map fun c => Value.int .u8 (c.toNat : Nat))[j]? = some u → w.cell? ((⟨g, 0, none⟩ : Addr).add j) = some u := by
  intro j u hj
  rw [hc] at hj
  rw [Addr.add_lit, Nat.zero_add]
  simp only [World.cell?, hg, Option.isSome_none, Bool.false_eq_true, if_false]
  rw [← Array.getElem?_toList]; exact hj
end Go.Proofs.YtjkjlbchbbpmaaaGreatDoor
/- Steps of soft regions with guarded operations. -/
namespace Go.Proofs.YtjkjlbchbbpmaaaGreatDoor
open Go.RowKit

section
variable {B : Nat} {w0 ws : World} {L : List (Nat × Array Value × TypeId)} {full : List Oper} {a0 : Act} {K : Act → World → Prop} {n : Nat} {l : List Oper} {o : Oper} {Γ : Env}
theorem live_of {g tg : Nat} {want : Bool} (hg : o.guard = some (g, want)) (htg : (full[g]?).bind (·.dst) = some tg) (hv : ∀ w v, Below ws.heap.size ws w → AtE a0 Γ w (.tmp tg) v → v = .bool want) : Live full ws a0 Γ o := by
  refine Or.inr ?_
  unfold GuardIs
  rw [hg]
  exact ⟨tg, want, htg, rfl, hv⟩
theorem dead_of {g tg : Nat} {b want : Bool} (hg : o.guard = some (g, want)) (htg : (full[g]?).bind (·.dst) = some tg) (hv : ∀ w v, Below ws.heap.size ws w → AtE a0 Γ w (.tmp tg) v → v = .bool b) (hne : (b == want) = false) : Dead full ws a0 Γ o := by
  unfold Dead GuardIs
  rw [hg]
  exact ⟨tg, b, htg, hne, hv⟩
theorem g_any {R : Prd} (hst : Stb R) (hop : ∀ (w : World) (e : Operand → Value), Rws B w0 w L → Below ws.heap.size ws w → (∀ x, x ∈ o.op.operands → AtE a0 Γ w x (e x)) → softUpon Tryz.prog w R ((execOp e o).run Tryz.prog w)) (h : softG Tryz.prog B w0 ws L full a0 K n l ((o.dst, R) :: Γ))
    (hlv : Live full ws a0 Γ o := by first | exact Or.inl rfl | exact live_of rfl rfl (fun _ _ _ h => h)) : softG Tryz.prog B w0 ws L full a0 K (n + 1) (o :: l) Γ := ⟨R, hst, Or.inl ⟨hlv, hop⟩, h⟩
/-- It is passed over. -/
theorem g_dead (hd : Dead full ws a0 Γ o) (h : softG Tryz.prog B w0 ws L full a0 K n l ((o.dst, Is undef) :: Γ)) : softG Tryz.prog B w0 ws L full a0 K (n + 1) (o :: l) Γ := ⟨Is undef, stb_is _, Or.inr ⟨hd, fun _ => rfl⟩, h⟩
theorem g_move {x : Operand} {R : Prd} (ho : o.op = .move x) (hst : Stb R) (hx : Has ws a0 Γ x R) (h : softG Tryz.prog B w0 ws L full a0 K n l ((o.dst, R) :: Γ))
    (hlv : Live full ws a0 Γ o := by first | exact Or.inl rfl | exact live_of rfl rfl (fun _ _ _ h => h)) : softG Tryz.prog B w0 ws L full a0 K (n + 1) (o :: l) Γ :=
  g_any hst (fun w e _ hb hat => by
    have h1 := hx w (e x) hb (hat x (by rw [ho]; exact Array.mem_singleton_self x))
    unfold execOp
    simp only [ho]
    exact ⟨h1, Below.refl _ _⟩) h hlv
theorem g_assign {x : Operand} {R : Prd} (ho : o.op = .assign x) (hst : Stb R) (hx : Has ws a0 Γ x R) (h : softG Tryz.prog B w0 ws L full a0 K n l ((o.dst, R) :: Γ))
    (hlv : Live full ws a0 Γ o := by first | exact Or.inl rfl | exact live_of rfl rfl (fun _ _ _ h => h)) : softG Tryz.prog B w0 ws L full a0 K (n + 1) (o :: l) Γ :=
  g_any hst (fun w e _ hb hat => by
    have h1 := hx w (e x) hb (hat x (by rw [ho]; exact Array.mem_singleton_self x))
    unfold execOp
    simp only [ho]
    exact ⟨h1, Below.refl _ _⟩) h hlv
theorem g_val {x : Operand} {R A : Prd} (hst : Stb R) (hmem : x ∈ o.op.operands) (hx : Has ws a0 Γ x A) (hv : ∀ (w : World) (e : Operand → Value), Rws B w0 w L → Below ws.heap.size ws w → A w (e x) → ∃ v, (execOp e o).run Tryz.prog w = .ok (.value v) w ∧ R w v)
    (h : softG Tryz.prog B w0 ws L full a0 K n l ((o.dst, R) :: Γ)) (hlv : Live full ws a0 Γ o := by first | exact Or.inl rfl | exact live_of rfl rfl (fun _ _ _ h => h)) : softG Tryz.prog B w0 ws L full a0 K (n + 1) (o :: l) Γ :=
  g_any hst (fun w e hR hb hat => by
    obtain ⟨v, hv1, hv2⟩ := hv w e hR hb (hx w (e x) hb (hat x hmem))
    rw [hv1]
    exact ⟨hv2, Below.refl _ _⟩) h hlv
/-- The address of a field. -/
theorem g_fa {st : TypeId} {x : Operand} {i g k off : Nat} {fs : Array Field} {f : Field} (ho' : o.op = .fieldAddr st x i) (hx : Has ws a0 Γ x (Is (.pointer (some ⟨g, k, none⟩)))) (hu : Tryz.prog.underlying st = some (.struct fs)) (hf : fs[i]? = some f)
    (hs : ∃ s, (Tryz.prog.info? f.type).map (·.size) = some (s + 1)) (ho : k + f.offset = off)
    (h : softG Tryz.prog B w0 ws L full a0 K n l ((o.dst, Is (.pointer (some ⟨g, off, none⟩))) :: Γ)) (hlv : Live full ws a0 Γ o := by first | exact Or.inl rfl | exact live_of rfl rfl (fun _ _ _ h => h)) : softG Tryz.prog B w0 ws L full a0 K (n + 1) (o :: l) Γ :=
  g_val (x := x) (A := Is (.pointer (some ⟨g, k, none⟩))) (stb_is _) (by rw [ho']; exact Array.mem_singleton_self x) hx (fun w e _ _ he => by
    obtain ⟨s, hs⟩ := hs
    have h0 : (sizeOf f.type).run Tryz.prog w = .ok (s + 1) w := by
      cases hq : Tryz.prog.info? f.type with
      | none => simp [hq] at hs
      | some i =>
        have : i.size = s + 1 := by simpa [hq] using hs
        simp [sizeOf, typeInfo, hq, this, Sem.run_bind]
    have h1 : (Instr.fieldAt st (.pointer (some ⟨g, k, none⟩)) i).run Tryz.prog w = .ok (.pointer (some ⟨g, off, none⟩)) w := by
      unfold Instr.fieldAt
      rw [Sem.run_bind, run_underlying hu w]
      simp [Result.andThen, hf, Instr.sureAddr, fieldPlace, Sem.run_bind, h0, addr_add, ho]
    refine ⟨.pointer (some ⟨g, off, none⟩), ?_, rfl⟩
    have he : e x = .pointer (some ⟨g, k, none⟩) := he
    unfold execOp
    simp only [ho', he]
    rw [Sem.run_bind, h1]
    rfl) h hlv
/-- One cell of a variable. -/
theorem g_cell {t t2 : TypeId} {x : Operand} {g k : Nat} {cs : Array Value} {v : Value} {R : Prd} (ho : o.op = .load t x) (hx : Has ws a0 Γ x (Is (.pointer (some ⟨g, k, none⟩)))) (hm : (g, cs, t2) ∈ L) (hc : cs[k]? = some v) (hag : ∀ w : World, (isAgg t).run Tryz.prog w = .ok false w)
    (hst : Stb R) (hr : ∀ w, Below ws.heap.size ws w → R w v) (h : softG Tryz.prog B w0 ws L full a0 K n l ((o.dst, R) :: Γ)) (hlv : Live full ws a0 Γ o := by first | exact Or.inl rfl | exact live_of rfl rfl (fun _ _ _ h => h)) : softG Tryz.prog B w0 ws L full a0 K (n + 1) (o :: l) Γ :=
  g_val (x := x) (A := Is (.pointer (some ⟨g, k, none⟩))) hst (by rw [ho]; exact Array.mem_singleton_self x) hx (fun w e hw hb he => by
    have hcell : w.cell? ⟨g, k, none⟩ = some v := (cell_of_row w g k cs t2 _ (hw.row _ hm).2).trans hc
    have h1 : (Instr.loadAt t (.pointer (some ⟨g, k, none⟩))).run Tryz.prog w = .ok v w := by
      simp [Instr.loadAt, Instr.sureAddr, loadVar, Sem.run_bind, hag, run_load, hcell]
    have he : e x = .pointer (some ⟨g, k, none⟩) := he
    refine ⟨v, ?_, hr w hb⟩
    unfold execOp
    simp only [ho, he]
    rw [Sem.run_bind, h1]
    rfl) h hlv
theorem g_lds {t2 : TypeId} {x : Operand} {g k : Nat} {cs : Array Value} {s : ByteArray} (ho : o.op = .load 9 x) (hx : Has ws a0 Γ x (Is (.pointer (some ⟨g, k, none⟩)))) (hm : (g, cs, t2) ∈ L) (hc : cs[k]? = some (.string s))
    (h : softG Tryz.prog B w0 ws L full a0 K n l ((o.dst, Is (.string s)) :: Γ)) (hlv : Live full ws a0 Γ o := by first | exact Or.inl rfl | exact live_of rfl rfl (fun _ _ _ h => h)) : softG Tryz.prog B w0 ws L full a0 K (n + 1) (o :: l) Γ :=
  g_cell ho hx hm hc isAgg_str (stb_is _) (fun _ _ => rfl) h hlv
/-- A whole struct or array. -/
theorem g_ldw {t t2 : TypeId} {x : Operand} {g : Nat} {cs : Array Value} {d : TypeDesc} {R : Prd} (ho : o.op = .load t x) (hx : Has ws a0 Γ x (Is (.pointer (some ⟨g, 0, none⟩)))) (hm : (g, cs, t2) ∈ L)
    (hu : Tryz.prog.underlying t = some d) (hd : isSA d = true) (hi : (Tryz.prog.info? t).map (·.size) = some cs.size)
    (hst : Stb R) (hr : ∀ w, Below ws.heap.size ws w → R w (.agg cs)) (h : softG Tryz.prog B w0 ws L full a0 K n l ((o.dst, R) :: Γ)) (hlv : Live full ws a0 Γ o := by first | exact Or.inl rfl | exact live_of rfl rfl (fun _ _ _ h => h)) : softG Tryz.prog B w0 ws L full a0 K (n + 1) (o :: l) Γ :=
  g_val (x := x) (A := Is (.pointer (some ⟨g, 0, none⟩))) hst (by rw [ho]; exact Array.mem_singleton_self x) hx (fun w e hw hb he => by
    have h1 := run_load_part (P := Tryz.prog) (w := w) (k := 0) (vs := cs) (hw.row _ hm).2 hu (by cases d <;> first | rfl | cases hd) hi (fun j _ => by rw [Nat.zero_add])
    refine ⟨.agg cs, ?_, hr w hb⟩
    have he : e x = .pointer (some ⟨g, 0, none⟩) := he
    unfold execOp
    simp only [ho, he]
    rw [Sem.run_bind, h1]
    rfl) h hlv
/-- A call. -/
theorem g_call {f : FuncId} {xs : List Operand} {ats : Array TypeId} {fn : Func} {c : Code} {R : Prd} (ho : o.op = .call { callee := .value (.func f), args := xs.toArray, argTypes := ats }) (hf : Tryz.prog.funcs[f]? = some fn) (hname : (fn.name == "runtime.NumGoroutine") = false) (hb : fn.body = some c) (hst : Stb R)
    (hc : ∀ (w : World) (e : Operand → Value), Below ws.heap.size ws w → (∀ x, x ∈ xs → AtE a0 Γ w x (e x)) → Calls Tryz.prog f (xs.map e).toArray w fun en w' => ∃ v, en = .returned v ∧ R w' v ∧ Below w.heap.size w w')
    (h : softG Tryz.prog B w0 ws L full a0 K n l ((o.dst, R) :: Γ)) (hlv : Live full ws a0 Γ o := by first | exact Or.inl rfl | exact live_of rfl rfl (fun _ _ _ h => h)) : softG Tryz.prog B w0 ws L full a0 K (n + 1) (o :: l) Γ :=
  g_any hst (fun w e _ hbl hat => by
    have hmem : ∀ x, x ∈ xs → x ∈ o.op.operands := fun x hx => by
      rw [ho]
      show x ∈ #[Operand.func f] ++ xs.toArray
      exact Array.mem_append.2 (Or.inr (by simpa using hx))
    have hfun : e (.func f) = a0.eval (.func f) := hat (.func f) (by
      rw [ho]
      show Operand.func f ∈ #[Operand.func f] ++ xs.toArray
      exact Array.mem_append.2 (Or.inl (Array.mem_singleton_self _)))
    rw [exec_call (a0 := a0) ho hf hname hb hfun]
    exact ⟨rfl, hc w e hbl fun x hx => hat x (hmem x hx)⟩) h hlv
theorem g_call1 {f : FuncId} {x : Operand} {ats : Array TypeId} {fn : Func} {c : Code} {A R : Prd} (ho : o.op = .call { callee := .value (.func f), args := [x].toArray, argTypes := ats }) (hf : Tryz.prog.funcs[f]? = some fn) (hname : (fn.name == "runtime.NumGoroutine") = false) (hb : fn.body = some c) (hst : Stb R)
    (hx : Has ws a0 Γ x A) (hc : ∀ (w : World) (v : Value), A w v → Calls Tryz.prog f #[v] w fun en w' => ∃ u, en = .returned u ∧ R w' u ∧ Below w.heap.size w w')
    (h : softG Tryz.prog B w0 ws L full a0 K n l ((o.dst, R) :: Γ)) (hlv : Live full ws a0 Γ o := by first | exact Or.inl rfl | exact live_of rfl rfl (fun _ _ _ h => h)) : softG Tryz.prog B w0 ws L full a0 K (n + 1) (o :: l) Γ :=
  g_call ho hf hname hb hst (fun w e hbl hat => hc w (e x) (hx w _ hbl (hat x (List.Mem.head _)))) h hlv
theorem g_call2 {f : FuncId} {x y : Operand} {ats : Array TypeId} {fn : Func} {c : Code} {A A' R : Prd} (ho : o.op = .call { callee := .value (.func f), args := [x, y].toArray, argTypes := ats }) (hf : Tryz.prog.funcs[f]? = some fn) (hname : (fn.name == "runtime.NumGoroutine") = false) (hb : fn.body = some c) (hst : Stb R)
    (hx : Has ws a0 Γ x A) (hy : Has ws a0 Γ y A') (hc : ∀ (w : World) (v u : Value), A w v → A' w u → Calls Tryz.prog f #[v, u] w fun en w' => ∃ u, en = .returned u ∧ R w' u ∧ Below w.heap.size w w')
    (h : softG Tryz.prog B w0 ws L full a0 K n l ((o.dst, R) :: Γ)) (hlv : Live full ws a0 Γ o := by first | exact Or.inl rfl | exact live_of rfl rfl (fun _ _ _ h => h)) : softG Tryz.prog B w0 ws L full a0 K (n + 1) (o :: l) Γ :=
  g_call ho hf hname hb hst (fun w e hbl hat => hc w (e x) (e y) (hx w _ hbl (hat x (List.Mem.head _))) (hy w _ hbl (hat y (List.Mem.tail _ (List.Mem.head _))))) h hlv
theorem g_callc {f : FuncId} {cv : Value} {y : Operand} {ats : Array TypeId} {fn : Func} {c : Code} {A' R : Prd} (ho : o.op = .call { callee := .value (.func f), args := [.const cv, y].toArray, argTypes := ats }) (hf : Tryz.prog.funcs[f]? = some fn) (hname : (fn.name == "runtime.NumGoroutine") = false) (hb : fn.body = some c) (hst : Stb R)
    (hy : Has ws a0 Γ y A') (hc : ∀ (w : World) (u : Value), A' w u → Calls Tryz.prog f #[cv, u] w fun en w' => ∃ u, en = .returned u ∧ R w' u ∧ Below w.heap.size w w')
    (h : softG Tryz.prog B w0 ws L full a0 K n l ((o.dst, R) :: Γ)) (hlv : Live full ws a0 Γ o := by first | exact Or.inl rfl | exact live_of rfl rfl (fun _ _ _ h => h)) : softG Tryz.prog B w0 ws L full a0 K (n + 1) (o :: l) Γ :=
  g_call ho hf hname hb hst (fun w e hbl hat => by
    have h1 : e (.const cv) = cv := hat (.const cv) (List.Mem.head _)
    have h2 := hc w (e y) (hy w _ hbl (hat y (List.Mem.tail _ (List.Mem.head _))))
    rw [← h1] at h2
    show Calls Tryz.prog f #[e (.const cv), e y] w _
    rw [h1] at h2 ⊢
    exact h2) h hlv


theorem g_two {x y : Operand} {v u r : Value} (hm : x ∈ o.op.operands) (hm2 : y ∈ o.op.operands) (hx : Has ws a0 Γ x (Is v)) (hy : Has ws a0 Γ y (Is u))
    (hr : ∀ (w : World) (e : Operand → Value), e x = v → e y = u → (execOp e o).run Tryz.prog w = .ok (.value r) w)
    (h : softG Tryz.prog B w0 ws L full a0 K n l ((o.dst, Is r) :: Γ)) (hlv : Live full ws a0 Γ o := by first | exact Or.inl rfl | exact live_of rfl rfl (fun _ _ _ h => h)) : softG Tryz.prog B w0 ws L full a0 K (n + 1) (o :: l) Γ :=
  g_any (stb_is _) (fun w e _ hb hat => by
    have h1 : e x = v := hx w _ hb (hat x hm)
    have h2 : e y = u := hy w _ hb (hat y hm2)
    rw [hr w e h1 h2]
    exact ⟨rfl, Below.refl _ _⟩) h hlv
/-- A string's byte. -/
theorem g_ixs {x y : Operand} {s : ByteArray} {k : IntKind} {i c : Int} (ho : o.op = .index 9 x y) (hx : Has ws a0 Γ x (Is (.string s))) (hy : Has ws a0 Γ y (Is (.int k i)))
    (hr : ∀ W : World, (Instr.index 9 (.string s) (.int k i)).run Tryz.prog W = .ok (.int .u8 c) W)
    (h : softG Tryz.prog B w0 ws L full a0 K n l ((o.dst, Is (.int .u8 c)) :: Γ)) (hlv : Live full ws a0 Γ o := by first | exact Or.inl rfl | exact live_of rfl rfl (fun _ _ _ h => h)) : softG Tryz.prog B w0 ws L full a0 K (n + 1) (o :: l) Γ :=
  g_two (x := x) (y := y) (by rw [ho]; exact Array.mem_def.2 (List.Mem.head _)) (by rw [ho]; exact Array.mem_def.2 (List.Mem.tail _ (List.Mem.head _))) hx hy (fun w e h1 h2 => by
    unfold execOp
    simp only [ho, h1, h2]
    rw [Sem.run_bind, hr w]
    rfl) h hlv
/-- A sum, a quotient, a comparison .. of two values. -/
theorem g_bin {x y : Operand} {b : BinOp} {t t2 : TypeId} {v u r : Value} (ho : o.op = .binOp b t x y t2) (hx : Has ws a0 Γ x (Is v)) (hy : Has ws a0 Γ y (Is u)) (hg : eqGuard b t x y v u = pure ())
    (hr : ∀ W : World, (binOp b t v u).run Tryz.prog W = .ok r W)
    (h : softG Tryz.prog B w0 ws L full a0 K n l ((o.dst, Is r) :: Γ)) (hlv : Live full ws a0 Γ o := by first | exact Or.inl rfl | exact live_of rfl rfl (fun _ _ _ h => h)) : softG Tryz.prog B w0 ws L full a0 K (n + 1) (o :: l) Γ :=
  g_two (x := x) (y := y) (by rw [ho]; exact Array.mem_def.2 (List.Mem.head _)) (by rw [ho]; exact Array.mem_def.2 (List.Mem.tail _ (List.Mem.head _))) hx hy (fun w e h1 h2 => by
    unfold execOp
    simp only [ho, h1, h2]
    rw [hg, Sem.run_bind, Sem.run_bind, Sem.run_pure]
    show ((binOp b t v u).run Tryz.prog w).andThen _ = _
    rw [hr w]
    rfl) h hlv
/-- One of two, by a bool. -/
theorem g_pick {x y z : Operand} {b : Bool} {R : Prd} (ho : o.op = .pick x y z) (hx : Has ws a0 Γ x (Is (.bool b))) (hst : Stb R) (hy : Has ws a0 Γ (bif b then y else z) R)
    (h : softG Tryz.prog B w0 ws L full a0 K n l ((o.dst, R) :: Γ)) (hlv : Live full ws a0 Γ o := by first | exact Or.inl rfl | exact live_of rfl rfl (fun _ _ _ h => h)) : softG Tryz.prog B w0 ws L full a0 K (n + 1) (o :: l) Γ :=
  g_any hst (fun w e _ hb hat => by
    have h1 : e x = .bool b := hx w _ hb (hat x (by rw [ho]; exact Array.mem_def.2 (List.Mem.head _)))
    have h2 : R w (e (bif b then y else z)) := hy w _ hb (hat _ (by
      rw [ho]; cases b
      · exact Array.mem_def.2 (List.Mem.tail _ (List.Mem.tail _ (List.Mem.head _)))
      · exact Array.mem_def.2 (List.Mem.tail _ (List.Mem.head _))))
    unfold execOp
    simp only [ho, h1]
    cases b
    · exact ⟨h2, Below.refl _ _⟩
    · exact ⟨h2, Below.refl _ _⟩) h hlv
/-- Of one operand: a conversion, a length, a cut .. -/
theorem g_one {x : Operand} {A : Prd} {r : Value} (hm : x ∈ o.op.operands) (hx : Has ws a0 Γ x A) (hr : ∀ (w : World) (e : Operand → Value), Below ws.heap.size ws w → A w (e x) → (execOp e o).run Tryz.prog w = .ok (.value r) w)
    (h : softG Tryz.prog B w0 ws L full a0 K n l ((o.dst, Is r) :: Γ)) (hlv : Live full ws a0 Γ o := by first | exact Or.inl rfl | exact live_of rfl rfl (fun _ _ _ h => h)) : softG Tryz.prog B w0 ws L full a0 K (n + 1) (o :: l) Γ :=
  g_val (stb_is _) hm hx (fun w e _ hb he => ⟨r, hr w e hb he, rfl⟩) h hlv
theorem g_not {x : Operand} {t : TypeId} {b : Bool} (ho : o.op = .unOp .not t x) (hx : Has ws a0 Γ x (Is (.bool b)))
    (h : softG Tryz.prog B w0 ws L full a0 K n l ((o.dst, Is (.bool (!b))) :: Γ)) (hlv : Live full ws a0 Γ o := by first | exact Or.inl rfl | exact live_of rfl rfl (fun _ _ _ h => h)) : softG Tryz.prog B w0 ws L full a0 K (n + 1) (o :: l) Γ :=
  g_one (x := x) (by rw [ho]; exact Array.mem_singleton_self x) hx (fun w e _ he => by
    have he : e x = .bool b := he
    unfold execOp
    simp only [ho, he]
    rfl) h hlv
theorem g_conv {t1 t2 : TypeId} {x : Operand} {v r : Value} (ho : o.op = .convert t1 t2 x) (hx : Has ws a0 Γ x (Is v)) (hc : ∀ w, Below ws.heap.size ws w → (convert t1 t2 v).run Tryz.prog w = .ok r w)
    (h : softG Tryz.prog B w0 ws L full a0 K n l ((o.dst, Is r) :: Γ)) (hlv : Live full ws a0 Γ o := by first | exact Or.inl rfl | exact live_of rfl rfl (fun _ _ _ h => h)) : softG Tryz.prog B w0 ws L full a0 K (n + 1) (o :: l) Γ :=
  g_one (x := x) (by rw [ho]; exact Array.mem_singleton_self x) hx (fun w e hb he => by
    have h1 : e x = v := he
    unfold execOp
    simp only [ho, h1]
    rw [Sem.run_bind, hc w hb]
    rfl) h hlv
end
end Go.Proofs.YtjkjlbchbbpmaaaGreatDoor
