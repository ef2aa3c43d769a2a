/- HRoot HMix HKeys, in one text. -/
import Derived.Test.YtjkjlbchbbpmaaaGreatDoorZS
import Derived.Test.YtjkjlbchbbpmaaaGreatDoorZB
/- Plain: the first bits behind the point of a prime's root, as the document reckons them. -/
namespace Go.Proofs.YtjkjlbchbbpmaaaGreatDoor

/-- The greatest number whose n-th power is at most t, bit by bit from 2^k down. -/
def rootB (n t : Nat) : Nat → Nat → Nat
  | 0, x => x
  | k + 1, x => rootB n t k (if (x + 2 ^ k) ^ n ≤ t then x + 2 ^ k else x)
def rootF (p n b : Nat) : Nat := rootB n (p * 2 ^ (n * b)) (b + 9) 0 % 2 ^ b
def primes64 : List Nat := [2, 3, 5, 7, 11, 13, 17, 19, 23, 29, 31, 37, 41, 43, 47, 53, 59, 61, 67, 71, 73, 79, 83, 89, 97, 101, 103, 107, 109, 113, 127, 131, 137, 139, 149, 151, 157, 163, 167, 173, 179, 181, 191, 193, 197, 199, 211, 223, 227, 229, 233, 239, 241, 251, 257, 263, 269, 271, 277, 281, 283, 293, 307, 311]
def kRoots : List Nat := primes64.map fun p => rootF p 3 32
theorem kRoots_size : kRoots.length = 64 := by decide +kernel
theorem kRoots_0 : kRoots[0]? = some 1116352408 := by decide +kernel
theorem kRoots_63 : kRoots[63]? = some 3329325298 := by decide +kernel
end Go.Proofs.YtjkjlbchbbpmaaaGreatDoor
/- hash: mixed of 32 bits. -/
namespace Go.Proofs.YtjkjlbchbbpmaaaGreatDoor
open Go.RowKit

/-- Turned right. -/
def ror32 (x n : Nat) : Nat := x / 2 ^ n ||| x * 2 ^ (32 - n) % 4294967296
theorem ror32_lt (x n : Nat) (hx : x < 4294967296) : ror32 x n < 4294967296 := by
  have h : x / 2 ^ n < 4294967296 := Nat.lt_of_le_of_lt (Nat.div_le_self _ _) hx
  have h2 : x * 2 ^ (32 - n) % 4294967296 < 4294967296 := Nat.mod_lt _ (by omega)
  exact Nat.or_lt_two_pow (n := 32) h h2

set_option maxRecDepth 100000 in
theorem ror_any (x n : Nat) (gx gb : Nat) (w : World) (hx : x < 4294967296) (hn : n ≤ 32)
    (cx : w.cell? ⟨gx, 0, none⟩ = some (.int .u32 (x : Int))) (cb : w.cell? ⟨gb, 0, none⟩ = some (.int .i64 32)) :
    Calls Tryz.prog 142 #[.int .i64 (n : Int), .pointer (some ⟨gx, 0, none⟩), .pointer (some ⟨gb, 0, none⟩)] w fun e w' => e = .returned (.int .u32 (ror32 x n : Nat)) ∧ ∃ k, w' = w.drewN k := by
  go_enter Tryz.func142, Tryz.ntmps142
  go_upto_region 1 with (fail)
  obtain ⟨m, hm⟩ : ∃ m : Nat, m = 32 - n := ⟨_, rfl⟩
  have hsub : IntKind.i64.wrap (32 - (n : Int)) = (m : Int) := by rw [IntKind.wrap_i64]; omega
  go_quiet (fail)
  go_wp2_with fail
  go_ret
  rw [← hm]
  have e1 : IntKind.u32.wrap ((x : Int) * 2 ^ m) = ((x * 2 ^ m % 4294967296 : Nat) : Int) := by
    have e : (x : Int) * 2 ^ m = ((x * 2 ^ m : Nat) : Int) := by rw [Int.natCast_mul, Int.natCast_pow]; rfl
    rw [e, IntKind.wrap_u32]
    generalize x * 2 ^ m = y
    omega
  have e2 : (x : Int) / 2 ^ n = ((x / 2 ^ n : Nat) : Int) := by rw [Int.natCast_ediv, Int.natCast_pow]; rfl
  refine ⟨?_, _, rfl⟩
  rw [e1, e2, u32_or_nat _ _ (Nat.lt_of_le_of_lt (Nat.div_le_self _ _) hx) (Nat.mod_lt _ (by omega))]
  unfold ror32
  rw [← hm]
  rfl

/-- Three of a number. -/
def mix32 (x a b c : Nat) (s : Bool) : Nat := ror32 x a ^^^ ror32 x b ^^^ (if s then x / 2 ^ c else ror32 x c)
def arr3 (a b c : Nat) : Array Value := #[.int .i64 (a : Int), .int .i64 (b : Int), .int .i64 (c : Int)]

section
variable {P : Program} {B : Nat} {w0 w : World} {L : List (Nat × Array Value × TypeId)} {ops : Array Oper} {rest : List Oper} {a : Act} {Q : Exit → Act → World → Prop} {o : Oper}
/-- A whole number in a box. -/
theorem wV_box (hgd : o.guard = none) (ty : TypeId) (x : Operand) (ho : o.op = .box ty x) (h : Rws B w0 w L) (k : IntKind) (v : Int) (hx : a.eval x = .int k v)
    (hK : ∀ g w', Rws B w0 w' ((g, #[.int k v], ty) :: L) → wpList P ops Q rest (a.put o.dst (.pointer (some ⟨g, 0, none⟩))) w') : wpList P ops Q (o :: rest) a w := by
  refine wpList_plain hgd fun K hKK => ?_
  unfold Oper.wp execOp
  simp only [ho, hx]
  exact hKK _ _ (hK _ _ (h.alloc #[.int k v] ty))
end
section
variable {P : Program} {B : Nat} {w0 w : World} {L : List (Nat × Array Value × TypeId)} {S : StRow} {ops : Array Oper} {l : List Oper} {n : Nat} {a : Act} {Q : Act → Prop} {o : Oper}
/-- Two values' operation. -/
theorem lexC_bin {op : BinOp} {t t2 : TypeId} {x y : Operand} {u v r : Value} (ho : o.op = .binOp op t x y t2) (hx : a.eval x = u) (hy : a.eval y = v) (hr : ∀ w : World, (binOp op t u v).run P w = .ok r w) (hq : ∀ w : World, (eqGuard op t x y u v).run P w = .ok () w)
    (h : lexC P B w0 L S ops Q n l (a.put o.dst r)) (hwt : Region.wanted o (yielded ops a.tmps) = true := by rfl) : lexC P B w0 L S ops Q (n + 1) (o :: l) a :=
  lexC_val (fun w => by
    unfold execOp
    simp only [ho, hx, hy]
    rw [Sem.run_bind, Sem.run_bind, hq w]
    simp only [Result.andThen_ok]
    rw [hr w]
    rfl) h hwt (by rw [ho]; rfl)
/-- A closure is called. -/
theorem lexC_callv {f : FuncId} {xv : Operand} {cap : Array Value} {xs : List Operand} {ats : Array TypeId} {fn : Func} {c : Code} {ys : List Value} {v : Value} (ho : o.op = .call { callee := .value xv, args := xs.toArray, argTypes := ats }) (hv : a.eval xv = .func (.func f) #[] cap) (hf : P.funcs[f]? = some fn) (hname : (fn.name == "runtime.NumGoroutine") = false) (hb : fn.body = some c)
    (hx : xs.map a.eval = ys) (hc : ∀ w, Rws B w0 w L → Calls P f (ys.toArray ++ cap) w fun e w' => e = .returned v ∧ Below w.heap.size w w') (h : lexC P B w0 L S ops Q n l (a.put o.dst v)) (hwt : Region.wanted o (yielded ops a.tmps) = true := by rfl) :
    lexC P B w0 L S ops Q (n + 1) (o :: l) a :=
  ⟨v, fun _ _ _ w hw => by
    have h1 : fn.name ≠ "runtime.NumGoroutine" := by simpa using hname
    have e : execOp a.eval o = callFunc f (ys.toArray ++ cap) := by
      unfold execOp
      simp only [ho, resolve, hv]
      show callFunc f (#[] ++ xs.toArray.map a.eval ++ cap) = _
      rw [← hx]
      simp
    have h2 : (callFunc f (ys.toArray ++ cap)).run P w = .ok (.enter f (ys.toArray ++ cap)) w := by simp [callFunc, hf, h1, hb]
    rw [e, h2]
    exact ⟨rfl, hc w hw⟩, fun h0 => absurd (hwt.symm.trans h0) (by decide), fun hs => (by rw [ho] at hs; cases hs), h⟩
end

theorem run_xor32 {P : Program} {t : TypeId} {x y : Nat} (hx : x < 4294967296) (hy : y < 4294967296) (w : World) : (binOp .xor t (.int .u32 (x : Int)) (.int .u32 (y : Int))).run P w = .ok (.int .u32 ((x ^^^ y : Nat) : Int)) w := by
  rw [← u32_xor_nat x y hx hy]; rfl
theorem run_and32 {P : Program} {t : TypeId} {x y : Nat} (hx : x < 4294967296) (hy : y < 4294967296) (w : World) : (binOp .and t (.int .u32 (x : Int)) (.int .u32 (y : Int))).run P w = .ok (.int .u32 ((x &&& y : Nat) : Int)) w := by
  rw [← u32_and_nat x y hx hy]; rfl
theorem run_add32 {P : Program} {t : TypeId} {x y : Nat} (w : World) : (binOp .add t (.int .u32 (x : Int)) (.int .u32 (y : Int))).run P w = .ok (.int .u32 (((x + y) % 4294967296 : Nat) : Int)) w := by
  have e : (((x + y) % 4294967296 : Nat) : Int) = IntKind.u32.wrap ((x : Int) + (y : Int)) := by rw [IntKind.wrap_u32]; omega
  rw [e]; rfl
theorem isAgg_int : ∀ w : World, (isAgg 3).run Tryz.prog w = .ok false w := Tryz.isAgg3
theorem int_info : (Tryz.prog.info? 3).map (·.size) = some 1 := by kernel_rfl

set_option maxRecDepth 100000 in
set_option maxHeartbeats 1600000 in
theorem mixed_shift (x a b c : Nat) (w : World) (hx : x < 4294967296) (ha : a ≤ 32) (hb : b ≤ 32) (hc : c ≤ 32) :
    Calls Tryz.prog 137 #[.int .u32 (x : Int), .agg (arr3 a b c), .int .i64 32, .bool true] w fun e w' => e = .returned (.int .u32 (mix32 x a b c true : Nat)) ∧ Below w.heap.size w w' := by
  have hR0 := Rws.start w
  go_enter Tryz.func137, Tryz.ntmps137
  go_upto_region 1 with (first | (refine wV_box rfl 60 _ (by rfl) (by assumption) _ _ rfl ?_; intro gx w1 hR) | (refine wV_box rfl 3 _ (by rfl) (by assumption) _ _ rfl ?_; intro gb w1 hR) | (refine wpList_box_rws rfl _ _ (by rfl) (by assumption) _ rfl ?_; intro gp w1 hR))
  have cx : _ = some (Value.int .u32 (x : Int)) := cell_of_row w1 _ 0 _ _ _ (hR.row _ (List.Mem.tail _ (List.Mem.tail _ (List.Mem.head _)))).2
  have c2 : _ = some (Value.int .i64 (c : Int)) := cell_of_row w1 _ 2 _ _ _ (hR.row _ (List.Mem.tail _ (List.Mem.head _))).2
  go_upto_region 5 with (fail)
  clear cx c2
  have hs : (x : Int) / 2 ^ c = ((x / 2 ^ c : Nat) : Int) := by rw [Int.natCast_ediv, Int.natCast_pow]; rfl
  have hsl : x / 2 ^ c < 4294967296 := Nat.lt_of_le_of_lt (Nat.div_le_self _ _) hx
  rw [hs]
  have HR : Hid (∀ (r : Nat) (w' : World), r ≤ 32 → Rws w.heap.size w w' [(gb, #[Value.int IntKind.i64 32], 3), (gp, arr3 a b c, 97), (gx, #[Value.int IntKind.u32 x], 60)] → Calls Tryz.prog 142 (#[.int .i64 (r : Int)] ++ #[.pointer (some ⟨gx, 0, none⟩), .pointer (some ⟨gb, 0, none⟩)]) w' fun e w'' => e = .returned (.int .u32 (ror32 x r : Nat)) ∧ Below w'.heap.size w' w'') := fun r w' hr h =>
    (ror_any x r gx gb w' hx hr (cell_of_row w' _ 0 _ _ _ (h.row _ (List.Mem.tail _ (List.Mem.tail _ (List.Mem.head _)))).2) (cell_of_row w' _ 0 _ _ _ (h.row _ (List.Mem.head _)).2)).mono fun e w'' ⟨he, k, hw⟩ => ⟨he, by rw [hw]; exact below_drewN (Below.refl _ _) k⟩
  refine wp_region_calm 11 (by rfl) (by kernel_rfl) (by assumption) ?_
  refine lexC_move rfl rfl ?_
  simp only [Act.put, List.setIfInBounds_toArray, List.set_cons_succ, List.set_cons_zero]
  refine lexC_ix (k := 0) rfl rfl rfl Tryz.underlying97 int_info (by decide) ?_
  simp only [Act.put, List.setIfInBounds_toArray, List.set_cons_succ, List.set_cons_zero]
  refine lexC_word (v := .int .i64 (a : Int)) rfl rfl (by repeat (first | exact List.Mem.head _ | refine List.Mem.tail _ ?_)) rfl isAgg_int ?_
  simp only [Act.put, List.setIfInBounds_toArray, List.set_cons_succ, List.set_cons_zero]
  refine lexC_callv rfl rfl Tryz.func142 (by kernel_rfl) rfl rfl (fun w' hw' => HR.out a w' ha hw') ?_
  simp only [Act.put, List.setIfInBounds_toArray, List.set_cons_succ, List.set_cons_zero]
  refine lexC_move rfl rfl ?_
  simp only [Act.put, List.setIfInBounds_toArray, List.set_cons_succ, List.set_cons_zero]
  refine lexC_ix (k := 1) rfl rfl rfl Tryz.underlying97 int_info (by decide) ?_
  simp only [Act.put, List.setIfInBounds_toArray, List.set_cons_succ, List.set_cons_zero]
  refine lexC_word (v := .int .i64 (b : Int)) rfl rfl (by repeat (first | exact List.Mem.head _ | refine List.Mem.tail _ ?_)) rfl isAgg_int ?_
  simp only [Act.put, List.setIfInBounds_toArray, List.set_cons_succ, List.set_cons_zero]
  refine lexC_callv rfl rfl Tryz.func142 (by kernel_rfl) rfl rfl (fun w' hw' => HR.out b w' hb hw') ?_
  simp only [Act.put, List.setIfInBounds_toArray, List.set_cons_succ, List.set_cons_zero]
  refine lexC_bin rfl rfl rfl (run_xor32 (ror32_lt x a hx) (ror32_lt x b hx)) (fun _ => rfl) ?_
  simp only [Act.put, List.setIfInBounds_toArray, List.set_cons_succ, List.set_cons_zero]
  refine lexC_move rfl rfl ?_
  simp only [Act.put, List.setIfInBounds_toArray, List.set_cons_succ, List.set_cons_zero]
  refine lexC_bin rfl rfl rfl (run_xor32 (Nat.xor_lt_two_pow (n := 32) (ror32_lt x a hx) (ror32_lt x b hx)) hsl) (fun _ => rfl) ?_
  simp only [Act.put, List.setIfInBounds_toArray, List.set_cons_succ, List.set_cons_zero]
  refine lexC_zero ?_; simp only [List.take_succ_cons, List.take_zero, List.drop_succ_cons, List.drop_zero]; (repeat (first | (refine aN_cons (by rfl) ?_; intro g; simp only [Act.put, List.setIfInBounds_toArray, List.set_cons_succ, List.set_cons_zero]) | (refine afterAl_skip (by rfl) ?_))); refine afterAl_nil ?_; intro w1 hR
  go_wp2_with fail
  go_ret
  exact ⟨rfl, Rws.below (by assumption)⟩

set_option maxRecDepth 100000 in
set_option maxHeartbeats 1600000 in
theorem mixed_turn (x a b c : Nat) (w : World) (hx : x < 4294967296) (ha : a ≤ 32) (hb : b ≤ 32) (hc : c ≤ 32) :
    Calls Tryz.prog 137 #[.int .u32 (x : Int), .agg (arr3 a b c), .int .i64 32, .bool false] w fun e w' => e = .returned (.int .u32 (mix32 x a b c false : Nat)) ∧ Below w.heap.size w w' := by
  have hR0 := Rws.start w
  go_enter Tryz.func137, Tryz.ntmps137
  go_upto_region 1 with (first | (refine wV_box rfl 60 _ (by rfl) (by assumption) _ _ rfl ?_; intro gx w1 hR) | (refine wV_box rfl 3 _ (by rfl) (by assumption) _ _ rfl ?_; intro gb w1 hR) | (refine wpList_box_rws rfl _ _ (by rfl) (by assumption) _ rfl ?_; intro gp w1 hR))
  have cx : _ = some (Value.int .u32 (x : Int)) := cell_of_row w1 _ 0 _ _ _ (hR.row _ (List.Mem.tail _ (List.Mem.tail _ (List.Mem.head _)))).2
  have c2 : _ = some (Value.int .i64 (c : Int)) := cell_of_row w1 _ 2 _ _ _ (hR.row _ (List.Mem.tail _ (List.Mem.head _))).2
  go_upto_region 4 with (fail)
  have HR : Hid (∀ (r : Nat) (w' : World), r ≤ 32 → Rws w.heap.size w w' [(gb, #[Value.int IntKind.i64 32], 3), (gp, arr3 a b c, 97), (gx, #[Value.int IntKind.u32 x], 60)] → Calls Tryz.prog 142 (#[.int .i64 (r : Int)] ++ #[.pointer (some ⟨gx, 0, none⟩), .pointer (some ⟨gb, 0, none⟩)]) w' fun e w'' => e = .returned (.int .u32 (ror32 x r : Nat)) ∧ Below w'.heap.size w' w'') := fun r w' hr h =>
    (ror_any x r gx gb w' hx hr (cell_of_row w' _ 0 _ _ _ (h.row _ (List.Mem.tail _ (List.Mem.tail _ (List.Mem.head _)))).2) (cell_of_row w' _ 0 _ _ _ (h.row _ (List.Mem.head _)).2)).mono fun e w'' ⟨he, k, hw⟩ => ⟨he, by rw [hw]; exact below_drewN (Below.refl _ _) k⟩
  go_wp2_with fail
  refine (HR.out c _ hc hR).mono ?_
  rintro e w1 ⟨rfl, hb1⟩
  have hR := Rws.call (by assumption) hb1
  clear cx c2 hb1
  have hsl := ror32_lt x c hx
  go_upto_region 5 with (fail)
  refine wp_region_calm 11 (by rfl) (by kernel_rfl) (by assumption) ?_
  refine lexC_move rfl rfl ?_
  simp only [Act.put, List.setIfInBounds_toArray, List.set_cons_succ, List.set_cons_zero]
  refine lexC_ix (k := 0) rfl rfl rfl Tryz.underlying97 int_info (by decide) ?_
  simp only [Act.put, List.setIfInBounds_toArray, List.set_cons_succ, List.set_cons_zero]
  refine lexC_word (v := .int .i64 (a : Int)) rfl rfl (by repeat (first | exact List.Mem.head _ | refine List.Mem.tail _ ?_)) rfl isAgg_int ?_
  simp only [Act.put, List.setIfInBounds_toArray, List.set_cons_succ, List.set_cons_zero]
  refine lexC_callv rfl rfl Tryz.func142 (by kernel_rfl) rfl rfl (fun w' hw' => HR.out a w' ha hw') ?_
  simp only [Act.put, List.setIfInBounds_toArray, List.set_cons_succ, List.set_cons_zero]
  refine lexC_move rfl rfl ?_
  simp only [Act.put, List.setIfInBounds_toArray, List.set_cons_succ, List.set_cons_zero]
  refine lexC_ix (k := 1) rfl rfl rfl Tryz.underlying97 int_info (by decide) ?_
  simp only [Act.put, List.setIfInBounds_toArray, List.set_cons_succ, List.set_cons_zero]
  refine lexC_word (v := .int .i64 (b : Int)) rfl rfl (by repeat (first | exact List.Mem.head _ | refine List.Mem.tail _ ?_)) rfl isAgg_int ?_
  simp only [Act.put, List.setIfInBounds_toArray, List.set_cons_succ, List.set_cons_zero]
  refine lexC_callv rfl rfl Tryz.func142 (by kernel_rfl) rfl rfl (fun w' hw' => HR.out b w' hb hw') ?_
  simp only [Act.put, List.setIfInBounds_toArray, List.set_cons_succ, List.set_cons_zero]
  refine lexC_bin rfl rfl rfl (run_xor32 (ror32_lt x a hx) (ror32_lt x b hx)) (fun _ => rfl) ?_
  simp only [Act.put, List.setIfInBounds_toArray, List.set_cons_succ, List.set_cons_zero]
  refine lexC_move rfl rfl ?_
  simp only [Act.put, List.setIfInBounds_toArray, List.set_cons_succ, List.set_cons_zero]
  refine lexC_bin rfl rfl rfl (run_xor32 (Nat.xor_lt_two_pow (n := 32) (ror32_lt x a hx) (ror32_lt x b hx)) hsl) (fun _ => rfl) ?_
  simp only [Act.put, List.setIfInBounds_toArray, List.set_cons_succ, List.set_cons_zero]
  refine lexC_zero ?_; simp only [List.take_succ_cons, List.take_zero, List.drop_succ_cons, List.drop_zero]; (repeat (first | (refine aN_cons (by rfl) ?_; intro g; simp only [Act.put, List.setIfInBounds_toArray, List.set_cons_succ, List.set_cons_zero]) | (refine afterAl_skip (by rfl) ?_))); refine afterAl_nil ?_; intro w1 hR
  go_wp2_with fail
  go_ret
  exact ⟨rfl, Rws.below (by assumption)⟩
theorem mixed_any (x a b c : Nat) (s : Bool) (w : World) (hx : x < 4294967296) (ha : a ≤ 32) (hb : b ≤ 32) (hc : c ≤ 32) :
    Calls Tryz.prog 137 #[.int .u32 (x : Int), .agg (arr3 a b c), .int .i64 32, .bool s] w fun e w' => e = .returned (.int .u32 (mix32 x a b c s : Nat)) ∧ Below w.heap.size w w' := by
  cases s with
  | true => exact mixed_shift x a b c w hx ha hb hc
  | false => exact mixed_turn x a b c w hx ha hb hc
theorem mix32_lt (x a b c : Nat) (s : Bool) (hx : x < 4294967296) : mix32 x a b c s < 4294967296 := by
  unfold mix32
  refine Nat.xor_lt_two_pow (n := 32) (Nat.xor_lt_two_pow (n := 32) (ror32_lt x a hx) (ror32_lt x b hx)) ?_
  cases s with
  | true => exact Nat.lt_of_le_of_lt (Nat.div_le_self _ _) hx
  | false => exact ror32_lt x c hx
end Go.Proofs.YtjkjlbchbbpmaaaGreatDoor
/- hash: the numbers K of 32 bits. -/
namespace Go.Proofs.YtjkjlbchbbpmaaaGreatDoor
open Go.RowKit

def kList : List Nat := [1116352408, 1899447441, 3049323471, 3921009573, 961987163, 1508970993, 2453635748, 2870763221, 3624381080, 310598401, 607225278, 1426881987, 1925078388, 2162078206, 2614888103, 3248222580, 3835390401, 4022224774, 264347078, 604807628, 770255983, 1249150122, 1555081692, 1996064986, 2554220882, 2821834349, 2952996808, 3210313671, 3336571891, 3584528711, 113926993, 338241895, 666307205, 773529912, 1294757372, 1396182291, 1695183700, 1986661051, 2177026350, 2456956037, 2730485921, 2820302411, 3259730800, 3345764771, 3516065817, 3600352804, 4094571909, 275423344, 430227734, 506948616, 659060556, 883997877, 958139571, 1322822218, 1537002063, 1747873779, 1955562222, 2024104815, 2227730452, 2361852424, 2428436474, 2756734187, 3204031479, 3329325298]
theorem kList_roots : kList = kRoots := by decide +kernel
def kRow : Array Value := (kList.map fun (k : Nat) => Value.int .u32 (k : Int)).toArray

set_option maxRecDepth 100000 in
set_option maxHeartbeats 1600000 in
theorem keys32_any (w : World) : Calls Tryz.prog 122 #[] w fun e w' => ∃ g, e = .returned (.slice (some ⟨g, 0, none⟩) 64 64) ∧ Rws w.heap.size w w' [(g, kRow, 60)] := by
  have hR0 := Rws.start w
  go_enter Tryz.func122, Tryz.ntmps122
  go_wp2_with fail
  go_ret
  exact ⟨_, rfl, hR0.alloc kRow _⟩
end Go.Proofs.YtjkjlbchbbpmaaaGreatDoor
