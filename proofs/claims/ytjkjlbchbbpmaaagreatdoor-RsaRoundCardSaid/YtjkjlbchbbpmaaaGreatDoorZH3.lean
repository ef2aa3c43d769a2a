/- HTold HSum, in one text. -/
import Derived.Test.YtjkjlbchbbpmaaaGreatDoorZH1
import Derived.Test.YtjkjlbchbbpmaaaGreatDoorZE1
import Derived.Test.YtjkjlbchbbpmaaaGreatDoorZH0
import Derived.Test.YtjkjlbchbbpmaaaGreatDoorZH2
/- hash: told, at 32 bits: a state's bytes. -/
namespace Go.Proofs.YtjkjlbchbbpmaaaGreatDoor
open Go.RowKit

/-- The first t of a state's bytes. -/
def stP (v : Nat → Nat) (t : Nat) : List UInt8 := (List.range t).map fun i => UInt8.ofNat (v (i / 4) / 2 ^ (24 - 8 * (i % 4)) % 256)
theorem stP_all (v : Nat → Nat) : stP v 32 = stB v := rfl
theorem stP_length (v : Nat → Nat) (t : Nat) : (stP v t).length = t := by simp [stP]
theorem stP_succ (v : Nat → Nat) (t : Nat) : stP v (t + 1) = stP v t ++ [UInt8.ofNat (v (t / 4) / 2 ^ (24 - 8 * (t % 4)) % 256)] := by
  unfold stP; rw [List.range_succ, List.map_append]; rfl
theorem run_index_w8 (v : Nat → Nat) (i : Nat) (hi : i < 8) (w : World) : (Instr.index 165 (.agg (wc 8 v)) (.int .i64 (i : Int))).run Tryz.prog w = .ok (.int .u32 ((v i : Nat) : Int)) w := by
  rcases (by omega : i = 0 ∨ i = 1 ∨ i = 2 ∨ i = 3 ∨ i = 4 ∨ i = 5 ∨ i = 6 ∨ i = 7) with rfl | rfl | rfl | rfl | rfl | rfl | rfl | rfl <;> kernel_rfl

set_option maxRecDepth 100000 in
/-- All of a row, cut. -/
theorem run_cut_buf {w : World} {B : Nat} {v : Value} {l : List UInt8} (h : Buf w B v l) (n : Nat) (hn : l.length = n) (h0 : 0 < n) (w2 : World) :
    (Instr.sliceAt 46 v none (some (.int .i64 (n : Int))) none).run Tryz.prog w2 = .ok v w2 := by
  obtain ⟨_, ⟨_, h2⟩ | ⟨g, cap, cur, hv, _, _, hnc, _, hcs, ht⟩⟩ := h
  · omega
  · have hle : n ≤ cap := by omega
    have h0 : (0 : Int) ≤ (n : Int) := by omega
    have h2 : (n : Int) ≤ (cap : Int) := by omega
    subst hv hn
    rw [run_sliceAt_slice (h := Tryz.underlying46), run_slice_h (ht := Tryz.underlying46) (h0 := h0) (h2 := h2)]
    have hs : (sizeOf (Tryz.prog.elem 46)).run Tryz.prog w2 = .ok 1 w2 := Tryz.sizeOf5 w2
    rw [hs]
    simp [Result.andThen, sliced, Addr.add_lit]

set_option maxRecDepth 100000 in
set_option maxHeartbeats 1600000 in
theorem told_any (v : Nat → Nat) (hv : ∀ j, v j < 4294967296) (w : World) :
    Calls Tryz.prog 126 #[.agg (wc 8 v), .agg kc32] w fun e w' => e = .returned (.string ⟨(stB v).toArray⟩) ∧ Below w.heap.size w w' := by
  have HV := Lib.hid hv
  clear hv
  have hR0 := Rws.start w
  go_enter Tryz.func126, Tryz.ntmps126
  go_upto_region 1 with (first
    | (refine wpList_box_rws (x := .tmp 0) rfl _ (by rfl) (by assumption) _ rfl ?_; intro gs w1 hR)
    | (refine wpList_box_rws (x := .tmp 1) rfl _ (by rfl) (by assumption) _ rfl ?_; intro gq w1 hR))
  have hbuf1 : Buf w1 w1.heap.size (.slice none 0 0) (stP v (4 * 0)) := ⟨rfl, Or.inl ⟨rfl, rfl⟩⟩
  have HR := Lib.hid hR
  go_upto_region 3 with (refine wpList_load_rws rfl _ _ (by rfl) (by assumption) _ rfl _ _ (by repeat (first | exact List.Mem.head _ | refine List.Mem.tail _ ?_)) _ Tryz.underlying165 rfl (by rw [wc_size]; exact w8_info) ?_)
  clear hR
  go_loopw [5, 10] (fun bv iv wr => ∃ i : Nat, i ≤ 8 ∧ iv = .int .i64 i ∧ Buf wr w1.heap.size bv (stP v (4 * i)) ∧ Below w1.heap.size w1 wr) (fun _ iv _ => 8 - (intOf iv).toNat)
  case atStart => exact ⟨0, Nat.zero_le _, rfl, hbuf1, Below.refl _ _⟩
  case round =>
    clear hbuf1
    obtain ⟨i, hi, rfl, hbuf, hbel⟩ := hrel
    have hRr := HR.out.call hbel
    by_cases hin : i < 8
    · have hdec : decide ((i : Int) < 8) = true := by rw [decide_eq_true_eq]; omega
      obtain ⟨x, hx⟩ : ∃ x, x = v i := ⟨_, rfl⟩
      have hix : ∀ w : World, (Instr.index 165 (.agg (wc 8 v)) (.int .i64 (i : Int))).run Tryz.prog w = .ok (.int .u32 (x : Int)) w := fun w => by rw [hx]; exact run_index_w8 v i hin w
      have hxl : x < 4294967296 := by rw [hx]; exact HV.out i
      have HX := Lib.hid hx
      clear hx
      go_wp2_with (refine wR_loadc rfl (by rfl) hRr rfl (by repeat (first | exact List.Mem.head _ | refine List.Mem.tail _ ?_)) (v := .int .i64 32) rfl isAgg_int ?_)
      clear hdec hix hRr
      obtain ⟨wo, rfl⟩ : ∃ wo : World, wo = wr := ⟨_, rfl⟩
      go_loopw [5, 8] (fun bv sv wr => ∃ r : Nat, r ≤ 4 ∧ sv = .int .i64 (8 * (r : Int) - 8) ∧ Buf wr w1.heap.size bv (stP v (4 * i + (4 - r))) ∧ Below w1.heap.size w1 wr) (fun _ sv _ => (intOf sv + 8).toNat)
      case atStart => exact ⟨4, Nat.le_refl _, rfl, hbuf, hbel⟩
      case round =>
        clear hbuf hbel
        obtain ⟨r, hr, rfl, hbuf, hbel⟩ := hrel
        have hsz := hbel.size
        by_cases hr0 : r = 0
        · subst hr0
          go_wp2_with fail
          go_roundw
          case rel => exact ⟨i + 1, by omega, by go_num, hbuf, hbel⟩
          case measure => simp [intOf]; omega
        · obtain ⟨k, rfl⟩ : ∃ k, r = k + 1 := ⟨r - 1, by omega⟩
          have ek : 8 * (((k + 1 : Nat)) : Int) - 8 = ((8 * k : Nat) : Int) := by omega
          rw [ek]
          obtain ⟨sh, hsh⟩ : ∃ sh, sh = 8 * k := ⟨_, rfl⟩
          rw [← hsh]
          have hsl : sh ≤ 24 := by omega
          obtain ⟨cs, hcs⟩ : ∃ cs, cs = [UInt8.ofNat (x / 2 ^ sh % 256)] := ⟨_, rfl⟩
          have hcl : cs.length = 1 := by rw [hcs]; rfl
          have hcv : (cs.map fun c => Value.int .u8 (c.toNat : Nat)) = [Value.int .u8 ((x : Int) / 2 ^ sh % 256)] := by
            rw [hcs]
            simp only [List.map_cons, List.map_nil]
            rw [toNat_ofNat8 _ (Nat.mod_lt _ (by omega))]
            congr 2
          have hps : stP v (4 * i + (4 - k)) = stP v (4 * i + (4 - (k + 1))) ++ cs := by
            rw [hcs, HX.out, hsh, show 4 * i + (4 - k) = 4 * i + (4 - (k + 1)) + 1 by omega, stP_succ, show (4 * i + (4 - (k + 1))) / 4 = i by omega, show 24 - 8 * ((4 * i + (4 - (k + 1))) % 4) = 8 * k by omega]
          have hpl : (stP v (4 * i + (4 - (k + 1)))).length + 1 ≤ 140737488355328 := by rw [stP_length]; omega
          have HCV := Lib.hid hcv; have HPS := Lib.hid hps; have HPL := Lib.hid hpl; have HCL := Lib.hid hcl
          have HSH := Lib.hid hsh
          clear ek hsh hcs hcv hps hpl hcl
          go_wp2_with (at_builtin; refine wpList_append_buf _ rfl (.tmp 20) (.tmp 25) _ rfl Tryz.underlying46 w1.heap.size _ (stP v (4 * i + (4 - (k + 1)))) rfl (hbuf.below ((Below.refl _ _).alloc (Nat.le_refl _) _)) ⟨wr.heap.size, 0, none⟩ 1 1 cs rfl HCL.out ?h1 HPL.out (by simp; omega) w1 (hbel.alloc (by omega) _) ?_; rotate_left; intro v' w2 hbuf2 hbel2 _)
          case h1 => rw [HCV.out]; exact new_cells _ _ _
          go_roundw
          case rel =>
            exact ⟨k, by omega, (show Value.int .i64 ((sh : Int) - 8) = _ by rw [show (8 * (k : Int) - 8) = (sh : Int) - 8 by rw [HSH.out]; omega]), by rw [HPS.out]; exact hbuf2, hbel2⟩
          case measure => simp [intOf]; omega
    · obtain rfl : i = 8 := by omega
      have hcut := run_cut_buf hbuf 32 (stP_length v 32) (by omega)
      have hcv := run_string_buf hbuf
      have hcut2 : ∀ w2 : World, (Instr.sliceAt 46 u5 none (some (.int .i64 32)) none).run Tryz.prog w2 = .ok u5 w2 := hcut
      have HCUT := Lib.hid hcut2
      have HCV := Lib.hid hcv
      clear hcut hcut2 hcv
      go_wp2_with (first
        | (refine wR_loadc rfl (by rfl) hRr rfl (by repeat (first | exact List.Mem.head _ | refine List.Mem.tail _ ?_)) (v := .int .i64 32) rfl isAgg_int ?_)
        | (refine wR_cut rfl (by rfl) rfl rfl rfl (HCUT.out _) ?_; have hcv := HCV.out))
      go_ret
      exact ⟨rfl, hRr.below⟩
end Go.Proofs.YtjkjlbchbbpmaaaGreatDoor
/- hash: Sum, at 32 bits. -/
namespace Go.Proofs.YtjkjlbchbbpmaaaGreatDoor
open Go.RowKit

/-- What is laid behind n bytes. -/
def padB (n j : Nat) : Nat := padF (fun _ => 0) n (padT n) (n + j)
theorem padB_lt (n j : Nat) : padB n j < 256 := by
  unfold padB padF
  split
  · omega
  · split
    · omega
    · split
      · omega
      · exact Nat.mod_lt _ (by omega)
def padL (n k : Nat) : List UInt8 := (List.range k).map fun j => UInt8.ofNat (padB n j)
theorem padL_length (n k : Nat) : (padL n k).length = k := by simp [padL]
theorem padL_succ (n k : Nat) : padL n (k + 1) = padL n k ++ [UInt8.ofNat (padB n k)] := by
  unfold padL; rw [List.range_succ, List.map_append]; rfl
theorem padL_bt (n k j : Nat) (hj : j < k) : bt ⟨(padL n k).toArray⟩ j = padB n j := by
  unfold bt padL
  simp only [List.getD_eq_getElem?_getD, List.getElem?_map, List.getElem?_range hj, Option.map_some, Option.getD_some]
  exact toNat_ofNat8 _ (padB_lt n j)
theorem padB_0 (n : Nat) : padB n 0 = 128 := by unfold padB padF; rw [if_neg (by omega), if_pos (by omega)]
theorem padB_mid (n j : Nat) (h0 : 0 < j) (h : n + j + 8 < padT n) : padB n j = 0 := by
  unfold padB padF; rw [if_neg (by omega), if_neg (by omega), if_pos h]
theorem padB_end (n j k : Nat) (h0 : 0 < j) (hk : k < 8) (h : n + j + k + 1 = padT n) : padB n j = 8 * n / 2 ^ (8 * k) % 256 := by
  unfold padB padF
  rw [if_neg (by omega), if_neg (by omega), if_neg (by omega), show padT n - 1 - (n + j) = k by omega]
theorem padF_tail (M : Nat → Nat) (n t j : Nat) : padF M n t (n + j) = padF (fun _ => 0) n t (n + j) := by
  unfold padF; simp only [show ¬ (n + j < n) by omega, if_false]
theorem HSt.congr {M M' : Nat → Nat} {n : Nat} {v bl : Nat → Nat} (h : HSt M n v bl) (e : ∀ i, i < n → M i = M' i) : HSt M' n v bl :=
  ⟨by rw [← fold32_congr firstF (n / 64) (fun j hj => e j (by omega))]; exact h.st, fun j hj => by rw [← e _ (by omega)]; exact h.blk j hj⟩
def slen : Value → Nat
  | .slice _ n _ => n
  | _ => 0
def zhash : Array Value := rowF 161 fun j => if j < 16 then .int .i64 0 else if j < 24 then .int .u32 0 else if j < 32 then .int .u64 0 else if j < 160 then .int .u8 0 else .int .i64 0
theorem zero_hash : ∀ w : World, (zeroValue 169).run Tryz.prog w = .ok (.agg zhash) w := fun w => by kernel_rfl
theorem hash_info' (v bl : Nat → Nat) (n : Nat) : (Tryz.prog.info? 169).map (·.size) = some (hc v bl n).size := by rw [hc_size]; exact hash_info
section
variable {P : Program} {B : Nat} {w0 w : World} {L : List (Nat × Array Value × TypeId)} {S : StRow} {ops : Array Oper} {l : List Oper} {n : Nat} {a : Act} {Q : Act → Prop} {o : Oper}
/-- len of a slice. -/
theorem lexC_lens {x : Operand} {t e : TypeId} {p : Option Addr} {m c : Nat} (ho : o.op = .call { callee := .builtin .len, args := #[x], argTypes := #[t] }) (hx : a.eval x = .slice p m c) (ht : P.underlying t = some (.slice e))
    (h : lexC P B w0 L S ops Q n l (a.put o.dst (.int .i64 (m : Int)))) (hwt : Region.wanted o (yielded ops a.tmps) = true := by rfl) : lexC P B w0 L S ops Q (n + 1) (o :: l) a :=
  lexC_val (fun w => by
    unfold execOp
    simp [ho, resolve, invoke, builtin, hx, Builtin.len_, Sem.run_bind, run_underlying ht, Result.andThen]
    rfl) h hwt (by rw [ho]; rfl)
end
theorem run_addi {P : Program} {t : TypeId} {i j : Nat} (h : i + j ≤ 4611686018427387904) (w : World) : (binOp .add t (.int .i64 (i : Int)) (.int .i64 (j : Int))).run P w = .ok (.int .i64 ((i + j : Nat) : Int)) w := by
  have e : ((i + j : Nat) : Int) = IntKind.i64.wrap ((i : Int) + (j : Int)) := by rw [IntKind.wrap_i64]; omega
  rw [e]; rfl

section
variable {P : Program} {w : World} {ops : Array Oper} {rest : List Oper} {a : Act} {Q : Exit → Act → World → Prop} {o : Oper}
/-- 'append(b, make([]byte, 0)...)'. -/
theorem wR_append0 {s x : Operand} {t ti e : TypeId} {k : IntKind} {base : Option Addr} {n cap : Nat} (hgd : o.guard = none) (ho : o.op = .call { callee := .builtin .append, args := #[s, x], argTypes := #[t, ti] }) (ht : P.underlying t = some (.slice e)) (hti : P.underlying ti = some (.int k))
    (hsz : (P.info? e).map (·.size) = some 1) (hs : a.eval s = .slice base n cap) (hx : a.eval x = .int .i64 0) (hn : n ≤ cap) (hK : wpList P ops Q rest (a.put o.dst (.slice base n cap)) w) : wpList P ops Q (o :: rest) a w := by
  have hrun : (Builtin.append_ #[t, ti] o.type #[.slice base n cap, .int .i64 0]).run P w = .ok (.slice base n cap) w := by
    cases hq : P.info? e with
    | none => simp [hq] at hsz
    | some i =>
      have h1 : i.size = 1 := by simpa [hq] using hsz
      have h0 : IntKind.i64.wrap 0 = 0 := rfl
      cases base with
      | none => simp [Builtin.append_, Sem.run_bind, run_underlying ht, run_underlying hti, sizeOf, typeInfo, hq, h1, asInt, asIntOf, h0, hn, Result.andThen]
      | some ad => simp [Builtin.append_, Sem.run_bind, run_underlying ht, run_underlying hti, sizeOf, typeInfo, hq, h1, asInt, asIntOf, h0, hn, Result.andThen, storeCells]
  refine wpList_plain hgd fun K hKK => ?_
  unfold Oper.wp execOp
  simp only [ho, resolve, invoke, builtin, Sem.run_bind, Sem.run_pure, Result.andThen_ok, List.map_toArray, List.map_cons, List.map_nil, hs, hx, hrun]
  exact hKK _ _ hK
end

/-- A new row of bytes. -/
theorem buf_new (w : World) (l : List UInt8) (h : l.length ≤ 4611686018427387904) : Buf (w.alloc (.cells (l.map fun c => Value.int .u8 (c.toNat : Nat)).toArray 5)) w.heap.size (.slice (some ⟨w.heap.size, 0, none⟩) l.length l.length) l :=
  ⟨by simp, Or.inr ⟨w.heap.size, l.length, _, rfl, Nat.le_refl _, heap_alloc_new w _, Nat.le_refl _, by unfold maxLen; omega, by simp, by rw [Nat.mul_one, List.take_of_length_le (by simp)]⟩⟩
theorem Buf.slen {w : World} {B : Nat} {v : Value} {l : List UInt8} (h : Buf w B v l) : slen v = l.length := by
  obtain ⟨_, ⟨rfl, h2⟩ | ⟨g, cap, cur, rfl, _⟩⟩ := h
  · exact h2.symm
  · rfl
theorem Buf.form {w : World} {B : Nat} {v : Value} {l : List UInt8} (h : Buf w B v l) (h0 : 0 < l.length) : ∃ g cap, v = .slice (some ⟨g, 0, none⟩) l.length cap ∧ l.length ≤ cap := by
  obtain ⟨_, ⟨rfl, h2⟩ | ⟨g, cap, cur, rfl, _, _, h3, _⟩⟩ := h
  · omega
  · exact ⟨g, cap, rfl, h3⟩

set_option maxRecDepth 100000 in
set_option maxHeartbeats 3200000 in
theorem hsum_any {B : Nat} {w0 w : World} {L : List (Nat × Array Value × TypeId)} (M : Nat → Nat) (g N : Nat) (v bl : Nat → Nat) (hR : Rws B w0 w ((g, hc v bl N, 169) :: L)) (hst : HSt M N v bl) (hbl : ∀ j, bl j < 256) (hN : N ≤ 281474976710656) :
    Calls Tryz.prog 89 #[.pointer (some ⟨g, 0, none⟩)] w fun e w' => e = .returned (.string ⟨(stB (shaF M N)).toArray⟩) ∧ Rws B w0 w' ((g, hc v bl N, 169) :: L) := by
  obtain ⟨T, hT⟩ : ∃ T, T = padT N := ⟨_, rfl⟩
  have hT1 : N + 9 ≤ T := by rw [hT]; unfold padT; omega
  have hT2 : T ≤ N + 72 := by rw [hT]; unfold padT; omega
  have HT3 : Hid (T % 64 = 0) := by rw [hT]; unfold padT; show _ = 0; omega
  have HST := Lib.hid hst; have HBL := Lib.hid hbl; have HT := Lib.hid hT
  clear hst hbl hT
  go_enter Tryz.func89, Tryz.ntmps89
  go_upto_region 2 with (first
    | (refine wpList_load_rws rfl _ _ (by rfl) (by assumption) _ rfl _ _ (by repeat (first | exact List.Mem.head _ | refine List.Mem.tail _ ?_)) _ Tryz.underlying169 rfl (by exact hash_info' _ _ _) ?_)
    | (refine wpList_alloc_rws rfl _ (by rfl) (by assumption) _ zero_hash ?_; intro gc w1 hR1)
    | (refine wpList_store_rws rfl _ _ _ (by rfl) (by assumption) _ rfl (hc v bl N) rfl _ _ _ (by repeat (first | exact Pick.here | apply Pick.there)) (by exact hash_info' _ _ _) (by rw [hc_size]; exact rowF_size _ _) (hc_cells _ _ _) ?_; intro w2 hR2))
  clear hR
  have HR := Lib.hid hR2
  clear hR2
  go_upto_region 3 with (fail)
  have hb1 : Buf (w2.alloc (.cells #[Value.int .u8 128] 5)) w2.heap.size (.slice (some ⟨w2.heap.size, 0, none⟩) 1 1) (padL N 1) := by
    have e : padL N 1 = [128] := by rw [padL_succ, padB_0]; rfl
    rw [e]
    exact buf_new w2 [128] (by decide)
  go_loopw [4] (fun bv wr => ∃ e : Nat, 0 < e ∧ N + e + 8 ≤ T ∧ Buf wr w2.heap.size bv (padL N e) ∧ Below w2.heap.size w2 wr) (fun bv _ => T - slen bv)
  case atStart => exact ⟨1, by omega, by omega, hb1, (Below.refl _ _).alloc (Nat.le_refl _) _⟩
  case round =>
    clear hb1
    obtain ⟨e, he0, he, hbuf, hbel⟩ := hrel
    have hRr := HR.out.call hbel
    obtain ⟨gb, cb, hv, hcb⟩ := hbuf.form (by rw [padL_length]; exact he0)
    rw [padL_length] at hv hcb
    have hsz := hbel.size
    have hgl : g < wr.heap.size := hRr.lt (List.Mem.tail _ (List.Mem.head _))
    by_cases hend : N + e + 8 < T
    · obtain ⟨x, hx⟩ : ∃ x, x = (N + e + 8) % 64 := ⟨_, rfl⟩
      have hx0 : 0 < x := by have := HT3.out; omega
      have hx1 : ((x : Int) == 0) = false := by rw [beq_eq_false_iff_ne]; omega
      have hx2 : ((x : Int) != 0) = true := by rw [bne_iff_ne]; omega
      have hrem : ∀ w : World, (binOp .rem 3 (.int .i64 ((N + e + 8 : Nat) : Int)) (.int .i64 64)).run Tryz.prog w = .ok (.int .i64 (x : Int)) w := fun w => by rw [hx]; exact run_remi w
      obtain ⟨cs, hcs⟩ : ∃ cs, cs = [UInt8.ofNat 0] := ⟨_, rfl⟩
      have hcl : cs.length = 1 := by rw [hcs]; rfl
      have hcv : (cs.map fun c => Value.int .u8 (c.toNat : Nat)) = [Value.int .u8 0] := by rw [hcs]; rfl
      have hps : padL N (e + 1) = padL N e ++ cs := by rw [padL_succ, padB_mid N e he0 (by rw [← HT.out]; exact hend), hcs]
      have hpl : (padL N e).length + 1 ≤ 140737488355328 := by rw [padL_length]; omega
      have HCV := Lib.hid hcv; have HPS := Lib.hid hps; have HPL := Lib.hid hpl; have HCL := Lib.hid hcl; have HREM := Lib.hid hrem; have HV := Lib.hid hv
      clear hcs hcv hps hpl hcl hrem hx hv
      rw [HV.out]
      go_upto_region 3 with (fail)
      refine wp_region_calm 19 (by rfl) (by kernel_rfl) (Rws.start wr) ?_
      refine lexC_move rfl rfl ?_
      simp only [Act.put, List.setIfInBounds_toArray, List.set_cons_succ, List.set_cons_zero]
      refine lexC_nil rfl rfl ?_
      simp only [Act.put, List.setIfInBounds_toArray, List.set_cons_succ, List.set_cons_zero]
      refine lexC_field rfl rfl Tryz.underlying169 rfl ⟨0, by kernel_rfl⟩ rfl ?_
      simp only [Act.put, List.setIfInBounds_toArray, List.set_cons_succ, List.set_cons_zero]
      refine lexC_old (k := 160) (v := .int .i64 ((N : Nat) : Int)) rfl rfl hgl (hRr.cellAt (List.Mem.tail _ (List.Mem.head _)) 160 (hc_n _ _ _)) isAgg_int ?_
      simp only [Act.put, List.setIfInBounds_toArray, List.set_cons_succ, List.set_cons_zero]
      refine lexC_move rfl rfl ?_
      simp only [Act.put, List.setIfInBounds_toArray, List.set_cons_succ, List.set_cons_zero]
      refine lexC_lens rfl rfl Tryz.underlying46 ?_
      simp only [Act.put, List.setIfInBounds_toArray, List.set_cons_succ, List.set_cons_zero]
      refine lexC_bin rfl rfl rfl (run_addi (by omega)) (fun _ => rfl) ?_
      simp only [Act.put, List.setIfInBounds_toArray, List.set_cons_succ, List.set_cons_zero]
      refine lexC_move rfl rfl ?_
      simp only [Act.put, List.setIfInBounds_toArray, List.set_cons_succ, List.set_cons_zero]
      refine lexC_nil rfl rfl ?_
      simp only [Act.put, List.setIfInBounds_toArray, List.set_cons_succ, List.set_cons_zero]
      refine lexC_field rfl rfl Tryz.underlying169 rfl ⟨15, by kernel_rfl⟩ rfl ?_
      simp only [Act.put, List.setIfInBounds_toArray, List.set_cons_succ, List.set_cons_zero]
      refine lexC_field rfl rfl Tryz.underlying163 rfl ⟨0, by kernel_rfl⟩ rfl ?_
      simp only [Act.put, List.setIfInBounds_toArray, List.set_cons_succ, List.set_cons_zero]
      refine lexC_old (k := 15) (v := .int .i64 8) rfl rfl hgl (hRr.cellAt (List.Mem.tail _ (List.Mem.head _)) 15 (hc_15 _ _ _)) isAgg_int ?_
      simp only [Act.put, List.setIfInBounds_toArray, List.set_cons_succ, List.set_cons_zero]
      refine lexC_bin rfl rfl rfl (run_addi (j := 8) (by omega)) (fun _ => rfl) ?_
      simp only [Act.put, List.setIfInBounds_toArray, List.set_cons_succ, List.set_cons_zero]
      refine lexC_move rfl rfl ?_
      simp only [Act.put, List.setIfInBounds_toArray, List.set_cons_succ, List.set_cons_zero]
      refine lexC_nil rfl rfl ?_
      simp only [Act.put, List.setIfInBounds_toArray, List.set_cons_succ, List.set_cons_zero]
      refine lexC_field rfl rfl Tryz.underlying169 rfl ⟨15, by kernel_rfl⟩ rfl ?_
      simp only [Act.put, List.setIfInBounds_toArray, List.set_cons_succ, List.set_cons_zero]
      refine lexC_field rfl rfl Tryz.underlying163 rfl ⟨0, by kernel_rfl⟩ rfl ?_
      simp only [Act.put, List.setIfInBounds_toArray, List.set_cons_succ, List.set_cons_zero]
      refine lexC_old (k := 13) (v := .int .i64 64) rfl rfl hgl (hRr.cellAt (List.Mem.tail _ (List.Mem.head _)) 13 (hc_13 _ _ _)) isAgg_int ?_
      simp only [Act.put, List.setIfInBounds_toArray, List.set_cons_succ, List.set_cons_zero]
      refine lexC_bin rfl rfl rfl HREM.out (fun _ => rfl) ?_
      simp only [Act.put, List.setIfInBounds_toArray, List.set_cons_succ, List.set_cons_zero]
      refine lexC_zero ?_; simp only [List.take_succ_cons, List.take_zero, List.drop_succ_cons, List.drop_zero]; (repeat (first | (refine aN_cons (by rfl) ?_; intro g; simp only [Act.put, List.setIfInBounds_toArray, List.set_cons_succ, List.set_cons_zero]) | (refine afterAl_skip (by rfl) ?_))); refine afterAl_nil ?_; intro w3 hR
      have hbel1 := hR.below
      have hbel2 := hbel.trans (hbel1.mono hsz)
      have hbuf2 := hbuf.below hbel1
      have hsz2 := hbel2.size
      rw [HV.out] at hbuf2
      clear hbuf hR hRr hbel hbel1
      go_wp2_with (at_builtin; refine wpList_append_buf _ rfl (.tmp 30) (.tmp 31) _ rfl Tryz.underlying46 w2.heap.size _ (padL N e) rfl (hbuf2.below ((Below.refl _ _).alloc (Nat.le_refl _) _)) ⟨w3.heap.size, 0, none⟩ 1 1 cs rfl HCL.out ?h1 HPL.out (by simp; omega) w2 (hbel2.alloc (by omega) _) ?_; rotate_left; intro v' w4 hbuf3 hbel3 _)
      case h1 => rw [HCV.out]; exact new_cells _ _ _
      go_roundw
      case rel => exact ⟨e + 1, by omega, by omega, by rw [HPS.out]; exact hbuf3, hbel3⟩
      case measure =>
        have hs3 := hbuf3.slen
        rw [List.length_append, padL_length, HCL.out] at hs3
        show T - slen v' < T - e
        omega
    · have hend2 : N + e + 8 = T := by omega
      have hrem : ∀ w : World, (binOp .rem 3 (.int .i64 ((N + e + 8 : Nat) : Int)) (.int .i64 64)).run Tryz.prog w = .ok (.int .i64 0) w := fun w => by
        rw [run_remi]
        have : (N + e + 8) % 64 = 0 := by rw [hend2]; exact HT3.out
        rw [this]; rfl
      have HREM := Lib.hid hrem; have HV := Lib.hid hv; have HE := Lib.hid hend2
      clear hrem hv hend2 hend
      rw [HV.out]
      go_upto_region 3 with (fail)
      refine wp_region_calm 19 (by rfl) (by kernel_rfl) (Rws.start wr) ?_
      refine lexC_move rfl rfl ?_
      simp only [Act.put, List.setIfInBounds_toArray, List.set_cons_succ, List.set_cons_zero]
      refine lexC_nil rfl rfl ?_
      simp only [Act.put, List.setIfInBounds_toArray, List.set_cons_succ, List.set_cons_zero]
      refine lexC_field rfl rfl Tryz.underlying169 rfl ⟨0, by kernel_rfl⟩ rfl ?_
      simp only [Act.put, List.setIfInBounds_toArray, List.set_cons_succ, List.set_cons_zero]
      refine lexC_old (k := 160) (v := .int .i64 ((N : Nat) : Int)) rfl rfl hgl (hRr.cellAt (List.Mem.tail _ (List.Mem.head _)) 160 (hc_n _ _ _)) isAgg_int ?_
      simp only [Act.put, List.setIfInBounds_toArray, List.set_cons_succ, List.set_cons_zero]
      refine lexC_move rfl rfl ?_
      simp only [Act.put, List.setIfInBounds_toArray, List.set_cons_succ, List.set_cons_zero]
      refine lexC_lens rfl rfl Tryz.underlying46 ?_
      simp only [Act.put, List.setIfInBounds_toArray, List.set_cons_succ, List.set_cons_zero]
      refine lexC_bin rfl rfl rfl (run_addi (by omega)) (fun _ => rfl) ?_
      simp only [Act.put, List.setIfInBounds_toArray, List.set_cons_succ, List.set_cons_zero]
      refine lexC_move rfl rfl ?_
      simp only [Act.put, List.setIfInBounds_toArray, List.set_cons_succ, List.set_cons_zero]
      refine lexC_nil rfl rfl ?_
      simp only [Act.put, List.setIfInBounds_toArray, List.set_cons_succ, List.set_cons_zero]
      refine lexC_field rfl rfl Tryz.underlying169 rfl ⟨15, by kernel_rfl⟩ rfl ?_
      simp only [Act.put, List.setIfInBounds_toArray, List.set_cons_succ, List.set_cons_zero]
      refine lexC_field rfl rfl Tryz.underlying163 rfl ⟨0, by kernel_rfl⟩ rfl ?_
      simp only [Act.put, List.setIfInBounds_toArray, List.set_cons_succ, List.set_cons_zero]
      refine lexC_old (k := 15) (v := .int .i64 8) rfl rfl hgl (hRr.cellAt (List.Mem.tail _ (List.Mem.head _)) 15 (hc_15 _ _ _)) isAgg_int ?_
      simp only [Act.put, List.setIfInBounds_toArray, List.set_cons_succ, List.set_cons_zero]
      refine lexC_bin rfl rfl rfl (run_addi (j := 8) (by omega)) (fun _ => rfl) ?_
      simp only [Act.put, List.setIfInBounds_toArray, List.set_cons_succ, List.set_cons_zero]
      refine lexC_move rfl rfl ?_
      simp only [Act.put, List.setIfInBounds_toArray, List.set_cons_succ, List.set_cons_zero]
      refine lexC_nil rfl rfl ?_
      simp only [Act.put, List.setIfInBounds_toArray, List.set_cons_succ, List.set_cons_zero]
      refine lexC_field rfl rfl Tryz.underlying169 rfl ⟨15, by kernel_rfl⟩ rfl ?_
      simp only [Act.put, List.setIfInBounds_toArray, List.set_cons_succ, List.set_cons_zero]
      refine lexC_field rfl rfl Tryz.underlying163 rfl ⟨0, by kernel_rfl⟩ rfl ?_
      simp only [Act.put, List.setIfInBounds_toArray, List.set_cons_succ, List.set_cons_zero]
      refine lexC_old (k := 13) (v := .int .i64 64) rfl rfl hgl (hRr.cellAt (List.Mem.tail _ (List.Mem.head _)) 13 (hc_13 _ _ _)) isAgg_int ?_
      simp only [Act.put, List.setIfInBounds_toArray, List.set_cons_succ, List.set_cons_zero]
      refine lexC_bin rfl rfl rfl HREM.out (fun _ => rfl) ?_
      simp only [Act.put, List.setIfInBounds_toArray, List.set_cons_succ, List.set_cons_zero]
      refine lexC_zero ?_; simp only [List.take_succ_cons, List.take_zero, List.drop_succ_cons, List.drop_zero]; (repeat (first | (refine aN_cons (by rfl) ?_; intro g; simp only [Act.put, List.setIfInBounds_toArray, List.set_cons_succ, List.set_cons_zero]) | (refine afterAl_skip (by rfl) ?_))); refine afterAl_nil ?_; intro w3 hR
      have hbel1 := hR.below
      have hbel2 := hbel.trans (hbel1.mono hsz)
      have hbuf2 := hbuf.below hbel1
      have hsz2 := hbel2.size
      have hRr := HR.out.call hbel2
      rw [HV.out] at hbuf2
      clear hbuf hR hbel hbel1
      go_upto_region 6 with (first
        | (refine wR_loadc rfl (by rfl) hRr rfl (List.Mem.tail _ (List.Mem.head _)) (hc_15 _ _ _) isAgg_int ?_)
        | (refine wR_append0 rfl rfl Tryz.underlying46 Tryz.underlying3 (by kernel_rfl) rfl rfl hcb ?_))
      go_wp2_with fail
      clear hRr
      go_loopw [4, 5] (fun bv sv wr => ∃ r : Nat, r ≤ 8 ∧ sv = .int .i64 (8 * (r : Int) - 8) ∧ Buf wr w2.heap.size bv (padL N (e + (8 - r))) ∧ Below w2.heap.size w2 wr) (fun _ sv _ => (intOf sv + 8).toNat)
      case atStart => exact ⟨8, Nat.le_refl _, rfl, hbuf2, hbel2⟩
      case round =>
        clear hbuf2 hbel2
        obtain ⟨r, hr, rfl, hbuf, hbel⟩ := hrel
        have hsz := hbel.size
        have hRr := HR.out.call hbel
        by_cases hr0 : r = 0
        · subst hr0
          have hcv := run_string_buf hbuf
          obtain ⟨s, hs⟩ : ∃ s : ByteArray, s = ⟨(padL N (e + 8)).toArray⟩ := ⟨_, rfl⟩
          have hcv2 : (convert 46 9 u4).run Tryz.prog wr = .ok (.string s) wr := by rw [hs]; exact hcv
          have hss : s.size = e + 8 := by rw [hs]; show (padL N (e + 8)).toArray.size = _; rw [List.size_toArray, padL_length]
          have hst2 : HSt (padF M N T) N v bl := HST.out.congr fun i hi => by unfold padF; rw [if_pos hi]
          have hM : ∀ j, j < s.size → bt s j = padF M N T (N + j) := fun j hj => by
            rw [hss] at hj
            rw [hs, padL_bt N _ j hj, padF_tail, HT.out]; rfl
          have hsl : s.size ≤ 281474976710656 := by omega
          have hw := write_any (padF M N T) gc N v bl s hRr hst2 HBL.out hM hsl hN
          have HW := Lib.hid hw; have HSS := Lib.hid hss
          clear hcv hs hss hst2 hM hw hbuf
          go_wp2_with fail
          refine HW.out.mono ?_
          rintro x w5 ⟨rfl, v5, bl5, gk, hst5, _, hR5⟩
          have h5 : v5 = shaF M N := by
            rw [hst5.st, HSS.out, ← Nat.add_assoc, HE.out, HT.out]; rfl
          have hl5 := hst5.lt
          have H5 := Lib.hid h5; have HL5 := Lib.hid hl5
          clear hst5 h5 hl5 hcv2
          go_wp2_with (first
            | (refine wR_loadc rfl (by rfl) hR5 rfl (List.Mem.tail _ (List.Mem.tail _ (List.Mem.head _))) (hc_0 _ _ _) isAgg_int ?_)
            | (refine wR_load (k := 16) (vs := wc 8 v5) rfl (by rfl) hR5 rfl (List.Mem.head _) Tryz.underlying165 rfl (by rw [wc_size]; exact w8_info) (hc_v _ _ _) ?_)
            | (refine wR_load (k := 0) (vs := kc32) rfl (by rfl) hR5 rfl (List.Mem.head _) Tryz.underlying163 rfl kind_info (hc_k _ _ _) ?_))
          refine (told_any v5 HL5.out _).mono ?_
          rintro x w6 ⟨rfl, hb6⟩
          have hR6 := (hR5.call hb6).sub (List.Sublist.cons _ (List.sublist_cons_self _ _))
          clear hb6 hR5
          go_wp2_with fail
          go_ret
          exact ⟨by rw [H5.out]; rfl, hR6⟩
        · obtain ⟨k, rfl⟩ : ∃ k, r = k + 1 := ⟨r - 1, by omega⟩
          have ek : 8 * (((k + 1 : Nat)) : Int) - 8 = ((8 * k : Nat) : Int) := by omega
          rw [ek]
          obtain ⟨sh, hsh⟩ : ∃ sh, sh = 8 * k := ⟨_, rfl⟩
          rw [← hsh]
          have hsl : sh ≤ 56 := by omega
          obtain ⟨cs, hcs⟩ : ∃ cs, cs = [UInt8.ofNat (8 * N / 2 ^ sh % 256)] := ⟨_, rfl⟩
          have hcl : cs.length = 1 := by rw [hcs]; rfl
          have hcv : (cs.map fun c => Value.int .u8 (c.toNat : Nat)) = [Value.int .u8 (8 * (N : Int) / 2 ^ sh % 256)] := by
            rw [hcs]
            simp only [List.map_cons, List.map_nil]
            rw [toNat_ofNat8 _ (Nat.mod_lt _ (by omega))]
            congr 2
          have hpd := padB_end N (e + (8 - (k + 1))) k (by omega) (by omega) (by rw [← HT.out]; have := HE.out; omega)
          have hps : padL N (e + (8 - k)) = padL N (e + (8 - (k + 1))) ++ cs := by
            rw [hcs, hsh, ← hpd, show e + (8 - k) = e + (8 - (k + 1)) + 1 by omega, padL_succ]
          have hpl : (padL N (e + (8 - (k + 1)))).length + 1 ≤ 140737488355328 := by rw [padL_length]; omega
          have HCV := Lib.hid hcv; have HPS := Lib.hid hps; have HPL := Lib.hid hpl; have HCL := Lib.hid hcl; have HSH := Lib.hid hsh
          clear ek hsh hcs hcv hps hpl hcl hpd
          go_wp2_with (first
            | (refine wR_loadc rfl (by rfl) hRr rfl (List.Mem.tail _ (List.Mem.head _)) (hc_n _ _ _) isAgg_int ?_)
            | (at_builtin; refine wpList_append_buf _ rfl (.tmp 45) (.tmp 54) _ rfl Tryz.underlying46 w2.heap.size _ (padL N (e + (8 - (k + 1)))) rfl (hbuf.below ((Below.refl _ _).alloc (Nat.le_refl _) _)) ⟨wr.heap.size, 0, none⟩ 1 1 cs rfl HCL.out ?h1 HPL.out (by simp; omega) w2 (hbel.alloc (by omega) _) ?_; rotate_left; intro v' w4 hbuf3 hbel3 _))
          case h1 => rw [HCV.out]; exact new_cells _ _ _
          go_roundw
          case rel =>
            exact ⟨k, by omega, (show Value.int .i64 ((sh : Int) - 8) = _ by rw [show (8 * (k : Int) - 8) = (sh : Int) - 8 by rw [HSH.out]; omega]), by rw [HPS.out]; exact hbuf3, hbel3⟩
          case measure => simp [intOf]; omega

theorem sha_eq (s : ByteArray) : sha s = ⟨(stB (shaF (bt s) s.size)).toArray⟩ := rfl

set_option maxRecDepth 100000 in
set_option maxHeartbeats 800000 in
theorem Sum_any (s : ByteArray) (hs : s.size ≤ 281474976710656) (w : World) :
    Calls Tryz.prog 52 #[.int .i64 0, .string s] w fun e w' => e = .returned (.tuple #[.string (sha s), .int .i64 0]) ∧ Below w.heap.size w w' := by
  have hst := HSt.zero (bt s) (fun _ => 0)
  have HST := Lib.hid hst
  clear hst
  go_enter Tryz.func52, Tryz.ntmps52
  go_wp2_with fail
  refine (new_any _).mono ?_
  rintro e w1 ⟨g, rfl, hR⟩
  go_wp2_with fail
  refine (write_any (bt s) g 0 firstF (fun _ => 0) s hR HST.out (fun _ => by omega) (fun j _ => by rw [Nat.zero_add]) hs (by omega)).mono ?_
  rintro e w2 ⟨rfl, v, bl, gk, hst, hbl, hR2⟩
  rw [Nat.zero_add] at hst hR2
  have H2 := Lib.hid hst; have HB := Lib.hid hbl
  clear hst hbl hR
  go_wp2_with fail
  refine (hsum_any (bt s) g s.size v bl hR2 H2.out HB.out hs).mono ?_
  rintro e w3 ⟨rfl, hR3⟩
  go_wp2_with fail
  go_ret2
  exact ⟨rfl, hR3.below⟩

set_option maxRecDepth 100000 in
theorem sum256_any (s : ByteArray) (hs : s.size ≤ 281474976710656) (w : World) :
    Calls Tryz.prog 26 #[.string s] w fun e w' => e = .returned (.string (sha s)) ∧ Below w.heap.size w w' := by
  go_enter Tryz.func26, Tryz.ntmps26
  go_wp2_with fail
  refine (Sum_any s hs _).mono ?_
  rintro e w1 ⟨rfl, hb⟩
  go_wp2_with fail
  go_ret
  exact ⟨rfl, hb⟩
end Go.Proofs.YtjkjlbchbbpmaaaGreatDoor
