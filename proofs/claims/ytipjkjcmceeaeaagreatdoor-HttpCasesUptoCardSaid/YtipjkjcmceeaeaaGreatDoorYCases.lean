/- ostiarylaw15.place, upper: the walks. HttpCases: the law's walk. -/
import Derived.Test.YtipjkjcmceeaeaaGreatDoorYRef1
import Derived.Test.YtipjkjcmceeaeaaGreatDoorYMore
import Derived.Test.YtipjkjcmceeaeaaGreatDoorYLawKit
import Derived.Test.YtipjkjcmceeaeaaGreatDoorYPChk
import Derived.Great.BuildSlice
import Derived.Lib.SlBytesConst
namespace Go.Proofs.YtipjkjcmceeaeaaGreatDoor
open Go.RowKit

theorem upL_fin : ∀ k : Fin 256, (97 ≤ (UInt8.ofNat k.val).toNat ∧ (UInt8.ofNat k.val).toNat ≤ 122 → ((upL (UInt8.ofNat k.val)).toNat : Int) = ((UInt8.ofNat k.val).toNat : Int) - 32) ∧ (¬ (97 ≤ (UInt8.ofNat k.val).toNat ∧ (UInt8.ofNat k.val).toNat ≤ 122) → upL (UInt8.ofNat k.val) = UInt8.ofNat k.val) := by decide +kernel
theorem upL_any (x : UInt8) : (97 ≤ x.toNat ∧ x.toNat ≤ 122 → ((upL x).toNat : Int) = (x.toNat : Int) - 32) ∧ (¬ (97 ≤ x.toNat ∧ x.toNat ≤ 122) → upL x = x) :=
  every_byte (P := fun x => (97 ≤ x.toNat ∧ x.toNat ≤ 122 → ((upL x).toNat : Int) = (x.toNat : Int) - 32) ∧ (¬ (97 ≤ x.toNat ∧ x.toNat ≤ 122) → upL x = x)) upL_fin x
set_option maxRecDepth 100000 in
set_option maxHeartbeats 2000000 in
theorem upper_any (l : List UInt8) (w : World) (hl : l.length ≤ SB) : Calls Tryz.prog 27 #[.string (bs l)] w (RetS (bs (upS l)) w) := by
  have hSB := SB_eq
  have hsz := bs_size l
  obtain ⟨cap, w1, hcv, hrow, hb1⟩ := conv_row w l (by omega)
  go_enter Tryz.func27, Tryz.ntmps27
  go_upto_region 3 with fail
  clear hcv
  obtain ⟨g, hg⟩ : ∃ g, g = w.heap.size := ⟨_, rfl⟩
  have hgB : w.heap.size ≤ g := by omega
  rw [← hg]
  have hrow0 : RowM w1 w.heap.size g cap ((l.take 0).map upL ++ l.drop 0) := by rw [hg]; simpa using hrow
  clear hrow hg
  go_loopg [4] l.length (fun gg s4 wr => ∃ (i : Nat), i ≤ l.length ∧ gg = l.length - i ∧ s4 = .int .i64 i ∧ Aside (RowM wr w.heap.size g cap ((l.take i).map upL ++ l.drop i)) ∧ Aside (Below w.heap.size w wr))
  case atStart => exact ⟨0, Nat.zero_le _, rfl, rfl, hrow0, hb1⟩
  case round =>
    obtain ⟨i, hil, rfl, rfl, HR, HB⟩ := hrel
    by_cases hlt : i < l.length
    · have hltz : (i : Int) < (l.length : Int) := by omega
      obtain ⟨x, hx⟩ : ∃ x, l[i]? = some x := ⟨l[i], by simp [hlt]⟩
      obtain ⟨k1, k2, k3⟩ := low_step upL hx
      have c1 := HR.out.cell k1
      have f1 := HR.out.free i (List.getElem?_eq_some_iff.1 k1).1
      obtain ⟨u1, u2⟩ := upL_any x
      by_cases hux : 97 ≤ x.toNat ∧ x.toNat ≤ 122
      · have hs := HR.out.set i (upL x)
        rw [k2] at hs
        have HR2 := Lib.hid hs
        have HB2 := Lib.hid (below_setc HB.out hgB i (.int .u8 ((upL x).toNat : Nat)))
        have hadd := u1 hux
        have h256 := (upL x).toNat_lt
        have hwr : ((x.toNat : Int) - 32) % 256 = ((upL x).toNat : Int) := by omega
        have hwr2 : (x.toNat : Int) - 32 = ((upL x).toNat : Int) := by omega
        have HOR := Lib.hid hwr
        have HOR2 := Lib.hid hwr2
        have h97 : (97 : Int) ≤ (x.toNat : Int) := by omega
        have h122 : (x.toNat : Int) ≤ 122 := by omega
        clear hux k1 k2 k3 hx hs hadd h256 hwr hwr2 u1 u2
        go_wp2_with fail
        go_roundg (l.length - (i + 1))
        case measure => omega
        case rel => exact ⟨i + 1, by omega, rfl, by go_num, by first | exact HR2.out | (rw [HOR.out]; exact HR2.out) | (rw [HOR2.out]; exact HR2.out), by first | exact HB2.out | (rw [HOR.out]; exact HB2.out) | (rw [HOR2.out]; exact HB2.out)⟩
      · have HR2 : Hid (RowM wr w.heap.size g cap ((l.take (i + 1)).map upL ++ l.drop (i + 1))) := Lib.hid (by rw [← k3 (u2 hux)]; exact HR.out)
        have hor : ¬ (97 : Int) ≤ (x.toNat : Int) ∨ ((97 : Int) ≤ (x.toNat : Int) ∧ ¬ (x.toNat : Int) ≤ 122) := by omega
        clear hux k1 k2 k3 hx u1 u2
        rcases hor with h97 | ⟨h97, h122⟩
        all_goals
          go_wp2_with fail
          go_roundg (l.length - (i + 1))
          case measure => omega
          case rel => exact ⟨i + 1, by omega, rfl, by go_num, HR2.out, HB.out⟩
    · have hltz : ¬ (i : Int) < (l.length : Int) := by omega
      have hrow : RowM wr w.heap.size g cap (upS l) := by have := HR.out; rw [List.take_of_length_le (by omega), List.drop_eq_nil_of_le (by omega), List.append_nil] at this; exact this
      have htx := hrow.text cap
      have hll : (upS l).length = l.length := by unfold upS; rw [List.length_map]
      rw [hll] at htx
      clear hrow
      go_wp2_with fail
      go_ret
      exact ⟨rfl, HB.out⟩
set_option maxRecDepth 100000 in
set_option maxHeartbeats 2000000 in
theorem place_any (n : Int) (h1 : -9223372036854775808 ≤ n) (h2 : n ≤ 9223372036854775807) : ∃ k : Nat, k < 10 ∧ ∀ w : World, Calls Tryz.prog 26 #[.int .i64 n, .int .i64 10] w fun e w' => e = .returned (.int .i64 (k : Nat)) ∧ w' = w := by
  have hp : 0 ≤ n ∨ n < 0 := by omega
  rcases hp with hp | hp
  · obtain ⟨a, rfl⟩ : ∃ a : Nat, n = (a : Int) := ⟨n.toNat, by omega⟩
    obtain ⟨k, hk⟩ : ∃ k, k = a % 10 := ⟨_, rfl⟩
    have hk10 : k < 10 := by omega
    have htm : Int.tmod (a : Int) 10 = (k : Int) := by rw [hk]; rfl
    have hkn : ¬ (k : Int) < 0 := by omega
    refine ⟨k, hk10, fun w => ?_⟩
    clear hk hp
    go_enter Tryz.func26, Tryz.ntmps26
    go_wp2_with fail
    go_ret
    exact ⟨rfl, rfl⟩
  · obtain ⟨a, ha⟩ : ∃ a : Nat, n = -(a : Int) := ⟨(-n).toNat, by omega⟩
    obtain ⟨j, hj⟩ : ∃ j, j = a % 10 := ⟨_, rfl⟩
    have hj10 : j < 10 := by omega
    have htm : Int.tmod n 10 = -(j : Int) := by rw [ha, hj, Int.neg_tmod]; rfl
    by_cases hj0 : j = 0
    · refine ⟨0, by omega, fun w => ?_⟩
      have htm2 : Int.tmod n 10 = 0 := by rw [htm, hj0]; rfl
      clear htm hj hj0 ha hp
      go_enter Tryz.func26, Tryz.ntmps26
      go_wp2_with fail
      go_ret
      exact ⟨rfl, rfl⟩
    · obtain ⟨k, hk⟩ : ∃ k, k = 10 - j := ⟨_, rfl⟩
      have hjn : -(j : Int) < 0 := by omega
      have hke : -(j : Int) + 10 = (k : Int) := by omega
      refine ⟨k, by omega, fun w => ?_⟩
      clear hj hj0 ha hp hk
      go_enter Tryz.func26, Tryz.ntmps26
      go_wp2_with fail
      go_ret
      exact ⟨rfl, rfl⟩
end Go.Proofs.YtipjkjcmceeaeaaGreatDoor

namespace Go.Proofs.YtipjkjcmceeaeaaGreatDoor.httpCases
open Go.RowKit

theorem v_ok {s : Bs} {q : Rq} {n : Nat} (h : parseQ s = .ok (q, n)) : parseV s = (q, n, 0) := by unfold parseV; rw [h]
theorem v_err {s : Bs} {e : Int} (h : parseQ s = .error e) : parseV s = (zRq, 0, e) := by unfold parseV; rw [h]
def linesK (k : Nat) (hs : List Hd) : Bs := (hs.map fun h => upS h.1 ++ [58] ++ List.replicate k 32 ++ h.2 ++ List.replicate k 32 ++ CRLF).flatten
theorem linesK_take {k : Nat} {hs : List Hd} {i : Nat} {h : Hd} (hx : hs[i]? = some h) : linesK k (hs.take (i + 1)) = linesK k (hs.take i) ++ (upS h.1 ++ [58] ++ List.replicate k 32 ++ h.2 ++ List.replicate k 32 ++ [13, 10]) := by
  obtain ⟨hi, e⟩ := List.getElem?_eq_some_iff.1 hx
  rw [List.take_succ_eq_append_getElem hi, e]
  unfold linesK
  rw [List.map_append, List.flatten_append]
  simp [CRLF]
theorem linesK_le {k : Nat} (hk : k ≤ 10) : ∀ hs : List Hd, (linesK k hs).length ≤ (linesS hs).length + 20 * hs.length
  | [] => Nat.zero_le _
  | h :: r => by
    have h1 := linesK_le hk r
    have h2 : linesK k (h :: r) = (upS h.1 ++ [58] ++ List.replicate k 32 ++ h.2 ++ List.replicate k 32 ++ CRLF) ++ linesK k r := rfl
    have h3 : linesS (h :: r) = lineS h ++ linesS r := rfl
    have h4 : (lineS h).length = h.1.length + 2 + h.2.length + 2 := by unfold lineS CRLF; simp only [List.length_append, List.length_cons, List.length_nil]
    have h5 : (upS h.1).length = h.1.length := by unfold upS; rw [List.length_map]
    rw [h2, h3]
    simp only [h4, List.length_append, List.length_cons, List.length_nil, List.length_replicate, h5, CRLF]
    omega
theorem parse_law {q : Rq} (h : checkS q = 0) (k : Nat) {T : Bs} (hT : T = q.m ++ [32] ++ q.t ++ [32, 72, 84, 84, 80, 47, 49, 46, 49, 13, 10] ++ linesK k q.hs ++ [13, 10]) : parseQ T = if 8192 < T.length then .error 152 else .ok (⟨q.m, q.t, q.hs, []⟩, T.length) := by
  have e : T = joinL (firstS q.m q.t :: q.hs.map (lineU k)) ++ CRLF := by
    rw [← headS_cases, hT]
    simp [linesK, wHttp, CRLF, List.append_assoc]
  rw [e]
  exact parse_cases h k
theorem row_same {w w' : World} {B g cap : Nat} {l : Bs} (h : RowM w B g cap l) (e : w'.heap[g]? = w.heap[g]?) : RowM w' B g cap l := by
  obtain ⟨cur, fz, hg, hh, r⟩ := h
  exact ⟨cur, fz, hg, by rw [e]; exact hh, r⟩
theorem row_take {w : World} {B g cap : Nat} {l : Bs} (h : RowM w B g cap l) (k : Nat) : RowM w B g cap (l.take k) := by
  obtain ⟨cur, fz, hg, hh, h1, h2, h3, h4, h5⟩ := h
  refine ⟨cur, fz, hg, hh, h1, ?_, h3, h4, fun j x hj => ?_⟩
  · rw [List.length_take]; omega
  · rw [List.getElem?_take] at hj
    split at hj
    · exact h5 j x hj
    · cases hj
section
variable {B : Nat} {w0 w : World} {L : List (Nat × Array Value × TypeId)} {ops : Array Oper} {rest : List Oper} {o : Oper} {a : Act} {Q : Exit → Act → World → Prop}
/-- Ten blanks, a constant's row. -/
theorem wp_blanks {o2 : Oper} {x : Operand} (hg : o.guard = none) (parts : Array (Nat × Operand)) (ho : o.op = .buildSlice 44 10 parts) (hp : parts.toList = ((List.replicate 10 (32 : Int)).zipIdx 0).map fun x => (x.2, Operand.const (Value.int .u8 x.1)))
    (hg2 : o2.guard = none) (ho2 : o2.op = .convert 44 44 x) (hx : (a.put o.dst (.slice (some ⟨w.heap.size, 0, none⟩) 10 10)).eval x = .slice (some ⟨w.heap.size, 0, none⟩) 10 10) (hR : Rws B w0 w L)
    (h : ∀ g w', RowM w' B g 10 (List.replicate 10 32) → Rws B w0 w' L → wpList Tryz.prog ops Q rest ((a.put o.dst (.slice (some ⟨g, 0, none⟩) 10 10)).put o2.dst (.slice (some ⟨g, 0, none⟩) 10 10)) w') : wpList Tryz.prog ops Q (o :: o2 :: rest) a w := by
  refine wpList_buildFlat hg _ 5 10 parts ho .u8 (List.replicate 10 32) Tryz.underlying44 (by kernel_rfl) (by kernel_rfl) rfl (by decide) (by decide) hp ?_
  have hrun := Lib.run_convert_bytes_const (P := Tryz.prog) w 44 5 ((List.replicate 10 (32 : Int)).map (Value.int .u8)).toArray 10 10 Tryz.underlying44 Tryz.underlying5
  refine wpList_plain hg2 fun K hK => ?_
  unfold Oper.wp execOp
  simp only [ho2, hx, Sem.run_bind, hrun, Result.andThen_ok]
  refine hK _ _ (h _ _ ?_ (hR.alloc0 _))
  refine ⟨_, _, hR.len, heap_alloc_new _ _, Or.inr (Nat.le_refl _), Nat.le_refl _, by decide, rfl, fun j y hj => ?_⟩
  have hy : y = 32 := List.eq_of_mem_replicate (List.mem_of_getElem? hj)
  have hlt : j < 10 := by have := (List.getElem?_eq_some_iff.1 hj).1; simpa using this
  subst hy
  rw [List.getElem?_toArray, List.getElem?_map, List.getElem?_replicate, if_pos hlt]; rfl
end
section
variable {B : Nat} {w0 ws : World} {L : List (Nat × Array Value × TypeId)} {full : List Oper} {a0 : Act} {K : Act → World → Prop} {n : Nat} {l : List Oper} {o : Oper} {Γ : Env}
theorem g_lenB {x : Operand} {g m c : Nat} (ho : o.op = .call { callee := .builtin .len, args := #[x], argTypes := #[44] }) (hx : Has ws a0 Γ x (Is (.slice (some ⟨g, 0, none⟩) m c)))
    (h : softG Tryz.prog B w0 ws L full a0 K n l ((o.dst, Is (.int .i64 (m : Nat))) :: Γ)) (hlv : Live full ws a0 Γ o := by first | exact ⟨rfl, Or.inl rfl⟩ | exact live_of rfl rfl rfl (fun _ _ _ h => h)) : softG Tryz.prog B w0 ws L full a0 K (n + 1) (o :: l) Γ := g_lenl ho (by kernel_rfl) hx h hlv
end
set_option maxRecDepth 100000 in
set_option maxHeartbeats 8000000 in
theorem law_any (q : Rq) (ad : Option Addr) (c : Nat) (ct : Int) (w : World) (hs : SlH w q.hs ad c) (hq : SmallQ q) (hct1 : -9223372036854775808 ≤ ct) (hct2 : ct ≤ 9223372036854775807) (hgw : Gw w) : Calls Tryz.prog 9 #[rqv q ad c, .int .i64 ct] w (RetB true w) := by
  have hMX := MX_eq
  have hSB := SB_eq
  have hR := Rws.start w
  have HP : Hid (∀ x : Bs, x.length ≤ 16777216 → ∀ u, Below w.heap.size w u → Calls Tryz.prog 10 #[.string (bs x)] u (ParsePost (parseV x) u)) := Lib.hid fun x hx u hb => Parse_any x u hx (hgw.below hb)
  have HPR0 : Hid (∀ u, Below w.heap.size w u → Calls Tryz.prog 19 #[rqv q ad c] u (RetSE (printS q) u)) := Lib.hid fun u hb => Print_any q ad c u (hs.grown hb) hq (hgw.below hb)
  have HGW := Lib.hid hgw
  have HS0 := Lib.hid hs
  have HSQ := Lib.hid hq
  clear hgw
  by_cases hc : checkS q = 0
  · obtain ⟨c31, hform, hb8, hh8⟩ := check_parts hc
    have HC := Lib.hid hc
    have HFM := Lib.hid hform
    obtain ⟨S, HPR⟩ : ∃ S, Hid (∀ u, Below w.heap.size w u → Calls Tryz.prog 19 #[rqv q ad c] u fun e w' => e = .returned (.tuple #[.string (bs S), .int .i64 0]) ∧ Below u.heap.size u w') := ⟨_, Lib.hid fun u hb => by
      have := HPR0.out u hb
      rw [show printS q = (headS q ++ q.b, 0) by unfold printS; rw [if_pos hc]] at this
      exact this⟩
    obtain ⟨k, hk, hpl⟩ := place_any ct hct1 hct2
    have HPL : Hid (∀ u, Calls Tryz.prog 26 #[.int .i64 ct, .int .i64 10] u fun e w' => e = .returned (.int .i64 (k : Nat)) ∧ w' = u) := Lib.hid hpl
    clear hpl HPR0 hform hc
    obtain ⟨BL, hBL⟩ : ∃ BL, BL = List.replicate k (32 : UInt8) := ⟨_, rfl⟩
    have hBLl : BL.length = k := by rw [hBL, List.length_replicate]
    have hBLt : (List.replicate 10 (32 : UInt8)).take k = BL := by rw [List.take_replicate, Nat.min_eq_left (by omega), hBL]
    have HBL := Lib.hid hBL
    have HBT := Lib.hid hBLt
    have HBLL := Lib.hid hBLl
    clear hBL hBLt hBLl
    have hkz : (k : Int) ≤ 10 := by omega
    obtain ⟨hle, hcm, b, f, had, hrow⟩ := hs
    have HROW := Lib.hid hrow
    have hql := hq.k
    have hqm := hq.m
    have hqt := hq.t
    have hln := hq.ln
    clear hrow
    obtain ⟨F0, hF0⟩ : ∃ F0, F0 = q.m ++ [32] ++ q.t ++ [32, 72, 84, 84, 80, 47, 49, 46, 49, 13, 10] := ⟨_, rfl⟩
    have hF0l : F0.length ≤ 2097164 := by rw [hF0]; simp only [List.length_append, List.length_cons, List.length_nil]; omega
    obtain ⟨X1, hX1⟩ : ∃ X1, X1 = q.m ++ [32] := ⟨_, rfl⟩
    obtain ⟨X2, hX2⟩ : ∃ X2, X2 = X1 ++ q.t := ⟨_, rfl⟩
    have a1 : bs q.m ++ ⟨#[32]⟩ = bs X1 := by rw [hX1]; exact bs_app2 q.m [32]
    have a2 : bs X1 ++ bs q.t = bs X2 := by rw [hX2]; exact bs_app2 _ _
    have a3 : bs X2 ++ ⟨#[32, 72, 84, 84, 80, 47, 49, 46, 49, 13, 10]⟩ = bs F0 := by rw [hF0, hX2, hX1]; exact bs_app2 _ [32, 72, 84, 84, 80, 47, 49, 46, 49, 13, 10]
    have z1 := bs_size q.m
    have z2 := bs_size q.t
    have z3 : (bs X1).size = q.m.length + 1 := by rw [bs_size, hX1, List.length_append]; rfl
    have z4 : (bs X2).size = q.m.length + 1 + q.t.length := by rw [bs_size, hX2, hX1, List.length_append, List.length_append]; rfl
    clear hX1 hX2
    have HF0 := Lib.hid hF0
    clear hF0
    go_enter Tryz.func9, Tryz.ntmps9
    go_upto_region 2 with (first
      | (refine wpList_box_rws rfl _ _ (by rfl) (by exact hR) (rqC q ad c) rfl ?_; intro gb w1 hR)
      | (refine wpList_load_rws rfl _ _ (by rfl) (by exact hR) gb rfl _ _ (by repeat (first | exact List.Mem.head _ | refine List.Mem.tail _ ?_)) _ Tryz.underlying24 rfl (by kernel_rfl) ?_)
      | (go_at_call 19; refine (HPR.out _ hR.below).mono ?_; rintro e w2 ⟨rfl, hb2⟩; have hR := hR.call hb2))
    go_upto_region 4 with fail
    go_upto_region 5 with (first
      | (refine wp_blanks rfl _ (by rfl) (by rfl) rfl (by rfl) (by rfl) (by exact hR) ?_; intro gz w3 hrz hR; have htz : (convert 44 9 (.slice (some ⟨gz, 0, none⟩) k 10)).run Tryz.prog w3 = .ok (.string (bs BL)) w3 := (by have := (row_take hrz k).text 10; rw [HBT.out, HBLL.out] at this; exact this))
      | (go_at_call 26; refine (HPL.out _).mono ?_; rintro e w4 ⟨rfl, rfl⟩))
    clear htz hrz
    obtain ⟨cap0, w5, hcv, hrow0, hb5⟩ := conv_row w4 F0 (by omega)
    have f0 : w4.cell? ⟨gb, 0, none⟩ = some (.string (bs q.m)) := hR.cellAt (g := gb) (List.Mem.head _) 0 rfl
    have f1 : w4.cell? ⟨gb, 1, none⟩ = some (.string (bs q.t)) := hR.cellAt (g := gb) (List.Mem.head _) 1 rfl
    have hw3 := hR.len
    go_upto_region 7 with fail
    have hR2 := hR.call hb5
    have hrow1 : RowM w5 w.heap.size w4.heap.size cap0 F0 := by
      obtain ⟨cur, fz, h1, h2⟩ := hrow0
      exact ⟨cur, fz, hw3, h2⟩
    clear hcv f0 f1 a1 a2 a3 z3 z4 hrow0 hR hb5
    go_loopg [8, 9] q.hs.length (fun gg s8 s9 wr => ∃ (i : Nat) (acc : List UInt8) (g cap : Nat), i ≤ q.hs.length ∧ gg = q.hs.length - i ∧ s8 = .slice (some ⟨g, 0, none⟩) acc.length cap ∧ s9 = .int .i64 (i : Nat) ∧ Aside (acc = F0 ++ linesK k (q.hs.take i)) ∧ Aside (RowM wr w.heap.size g cap acc) ∧ Aside (Rws w.heap.size w wr [(gb, rqC q ad c, 24)]))
    case atStart => exact ⟨0, F0, _, _, Nat.zero_le _, rfl, rfl, rfl, by show F0 = F0 ++ []; rw [List.append_nil], hrow1, hR2⟩
    case round =>
      obtain ⟨i, acc, g, cap, hil, rfl, rfl, rfl, HA, HO, HRR⟩ := hrel
      have hR := HRR.out
      have f2 : wr.cell? ⟨gb, 2, none⟩ = some (.slice ad q.hs.length c) := hR.cellAt (g := gb) (List.Mem.head _) 2 rfl
      have hal : acc.length ≤ 10486572 := by
        rw [HA.out, List.length_append]
        have h1 := lines_le q.hs i
        have h2 := linesK_le (show k ≤ 10 by omega) (q.hs.take i)
        rw [List.length_take] at h2
        omega
      by_cases hlt : i < q.hs.length
      · have hltz : (i : Int) < (q.hs.length : Int) := by omega
        obtain ⟨h, hh⟩ : ∃ h, q.hs[i]? = some h := ⟨q.hs[i], List.getElem?_eq_getElem hlt⟩
        obtain rfl : ad = some ⟨b, f, none⟩ := by rcases had with h | ⟨_, h⟩; exact h; omega
        obtain ⟨e0, e1⟩ := hd_cells (HROW.out) hh
        have hsm := hq.h h (List.mem_of_getElem? hh)
        obtain ⟨U, hU⟩ : ∃ U, U = upS h.1 := ⟨_, rfl⟩
        have hUl : U.length = h.1.length := by rw [hU]; unfold upS; rw [List.length_map]
        obtain ⟨L1, hL1⟩ : ∃ L1, L1 = U ++ [58] := ⟨_, rfl⟩
        obtain ⟨L2, hL2⟩ : ∃ L2, L2 = L1 ++ BL := ⟨_, rfl⟩
        obtain ⟨L3, hL3⟩ : ∃ L3, L3 = L2 ++ h.2 := ⟨_, rfl⟩
        obtain ⟨L4, hL4⟩ : ∃ L4, L4 = L3 ++ BL := ⟨_, rfl⟩
        obtain ⟨L5, hL5⟩ : ∃ L5, L5 = L4 ++ [13, 10] := ⟨_, rfl⟩
        have hbl := HBLL.out
        have l1 : L1.length = U.length + 1 := by rw [hL1, List.length_append]; rfl
        have l2 : L2.length = L1.length + BL.length := by rw [hL2, List.length_append]
        have l3 : L3.length = L2.length + h.2.length := by rw [hL3, List.length_append]
        have l4 : L4.length = L3.length + BL.length := by rw [hL4, List.length_append]
        have l5 : L5.length = L4.length + 2 := by rw [hL5, List.length_append]; rfl
        have HA2 : Hid (acc ++ L5 = F0 ++ linesK k (q.hs.take (i + 1))) := Lib.hid (by rw [linesK_take hh, HA.out, hL5, hL4, hL3, hL2, hL1, hU, HBL.out, List.append_assoc])
        have HZ1 : Hid (∀ W, (binOp .add 9 (.string (bs U)) (.string ⟨#[58]⟩)).run Tryz.prog W = .ok (.string (bs L1)) W) := Lib.hid fun W => by rw [hL1]; exact bin_addL U [58] (by simp only [List.length_cons, List.length_nil]; omega) W
        have HZ2 : Hid (∀ W, (binOp .add 9 (.string (bs L1)) (.string (bs BL))).run Tryz.prog W = .ok (.string (bs L2)) W) := Lib.hid fun W => by rw [hL2]; exact bin_addL L1 BL (by omega) W
        have HZ3 : Hid (∀ W, (binOp .add 9 (.string (bs L2)) (.string (bs h.2))).run Tryz.prog W = .ok (.string (bs L3)) W) := Lib.hid fun W => by rw [hL3]; exact bin_addL L2 h.2 (by omega) W
        have HZ4 : Hid (∀ W, (binOp .add 9 (.string (bs L3)) (.string (bs BL))).run Tryz.prog W = .ok (.string (bs L4)) W) := Lib.hid fun W => by rw [hL4]; exact bin_addL L3 BL (by omega) W
        have HZ5 : Hid (∀ W, (binOp .add 9 (.string (bs L4)) (.string ⟨#[13, 10]⟩)).run Tryz.prog W = .ok (.string (bs L5)) W) := Lib.hid fun W => by rw [hL5]; exact bin_addL L4 [13, 10] (by simp only [List.length_cons, List.length_nil]; omega) W
        have HUP : Hid (∀ u, Below wr.heap.size wr u → Calls Tryz.prog 27 #[.string (bs h.1)] u (RW (Is (.string (bs U))) u)) := Lib.hid fun u _ => by rw [hU]; exact (upper_any h.1 u (by omega)).mono fun _ _ h => rw_below h
        have hk2 : acc.length + L5.length ≤ 140737488355328 := by omega
        clear hL1 hL2 hL3 hL4 hL5 l1 l2 l3 l4 l5 hU hUl hbl
        go_upto_region 9 with fail
        have c0 := (hR.below.cell (p := ⟨b, f + i * 2, none⟩) (World.block_lt_of_cell? w _ e0)).trans e0
        have c1 := (hR.below.cell (p := ⟨b, f + i * 2 + 1, none⟩) (World.block_lt_of_cell? w _ e1)).trans e1
        have HB2 : Hid (∀ u, Below wr.heap.size wr u → u.cell? ⟨gb, 2, none⟩ = some (.slice (some ⟨b, f, none⟩) q.hs.length c)) := Lib.hid fun u hb => (hb.cell (p := ⟨gb, 2, none⟩) (hR.lt (x := _) (by repeat (first | exact List.Mem.head _ | refine List.Mem.tail _ ?_)))).trans (hR.cellAt (g := gb) (by repeat (first | exact List.Mem.head _ | refine List.Mem.tail _ ?_)) 2 rfl)
        have HE0 : Hid (∀ u, Below wr.heap.size wr u → u.cell? ⟨b, f + i * 2, none⟩ = some (.string (bs h.1))) := Lib.hid fun u hb => (hb.cell (p := ⟨b, f + i * 2, none⟩) (World.block_lt_of_cell? wr _ c0)).trans c0
        have HE1 : Hid (∀ u, Below wr.heap.size wr u → u.cell? ⟨b, f + i * 2 + 1, none⟩ = some (.string (bs h.2))) := Lib.hid fun u hb => (hb.cell (p := ⟨b, f + i * 2 + 1, none⟩) (World.block_lt_of_cell? wr _ c1)).trans c1
        clear c0 c1 e0 e1 hh f2
        refine wp_region_softG 21 (by kernel_rfl) (by kernel_rfl) (by rfl) hR ?_
        refine g_move (R := Is (.slice (some ⟨g, 0, none⟩) acc.length cap)) (by rfl) (stb_is _) (by exact fun _ _ _ h => h) ?_
        refine g_fa (g := gb) (k := 0) (off := 2) (by rfl) (by exact fun _ _ _ h => h) Tryz.underlying24 rfl ⟨0, by kernel_rfl⟩ rfl ?_
        refine g_cellw (g := gb) (k := 2) (v := .slice (some ⟨b, f, none⟩) q.hs.length c) (R := Is (.slice (some ⟨b, f, none⟩) q.hs.length c)) (by rfl) (by exact fun _ _ _ h => h) (HB2.out) isAgg_hds (stb_is _) (by exact fun _ _ => rfl) ?_
        refine g_move (R := Is (.int .i64 (i : Int))) (by rfl) (stb_is _) (by exact fun _ _ _ h => h) ?_
        refine g_ixh (b := b) (f := f) (len := q.hs.length) (c := c) (i := i) (by rfl) (by exact fun _ _ _ h => h) (by exact fun _ _ _ h => h) (hlt) ?_
        refine g_fa (g := b) (k := f + i * 2) (off := f + i * 2) (by rfl) (by exact fun _ _ _ h => h) Tryz.underlying52 rfl ⟨0, by kernel_rfl⟩ rfl ?_
        refine g_cellw (g := b) (k := f + i * 2) (v := .string (bs h.1)) (R := Is (.string (bs h.1))) (by rfl) (by exact fun _ _ _ h => h) (HE0.out) isAgg_str (stb_is _) (by exact fun _ _ => rfl) ?_
        refine g_callK (f := 27) (xs := [.tmp 53]) [.string (bs h.1)] (R := Is (.string (bs U))) (by rfl) Tryz.func27 (by kernel_rfl) rfl (stb_is _) ⟨(by exact fun _ _ _ h => h), trivial⟩ (HUP.out) ?_
        refine g_bin (v := .string (bs U)) (u := .string ⟨#[58]⟩) (r := .string (bs L1)) (by rfl) (by exact fun _ _ _ h => h) (by exact fun _ _ _ h => h) (by rfl) (HZ1.out) ?_
        refine g_move (R := Is (.string (bs BL))) (by rfl) (stb_is _) (by exact fun _ _ _ h => h) ?_
        refine g_bin (v := .string (bs L1)) (u := .string (bs BL)) (r := .string (bs L2)) (by rfl) (by exact fun _ _ _ h => h) (by exact fun _ _ _ h => h) (by rfl) (HZ2.out) ?_
        refine g_fa (g := gb) (k := 0) (off := 2) (by rfl) (by exact fun _ _ _ h => h) Tryz.underlying24 rfl ⟨0, by kernel_rfl⟩ rfl ?_
        refine g_cellw (g := gb) (k := 2) (v := .slice (some ⟨b, f, none⟩) q.hs.length c) (R := Is (.slice (some ⟨b, f, none⟩) q.hs.length c)) (by rfl) (by exact fun _ _ _ h => h) (HB2.out) isAgg_hds (stb_is _) (by exact fun _ _ => rfl) ?_
        refine g_move (R := Is (.int .i64 (i : Int))) (by rfl) (stb_is _) (by exact fun _ _ _ h => h) ?_
        refine g_ixh (b := b) (f := f) (len := q.hs.length) (c := c) (i := i) (by rfl) (by exact fun _ _ _ h => h) (by exact fun _ _ _ h => h) (hlt) ?_
        refine g_fa (g := b) (k := f + i * 2) (off := f + i * 2 + 1) (by rfl) (by exact fun _ _ _ h => h) Tryz.underlying52 rfl ⟨0, by kernel_rfl⟩ rfl ?_
        refine g_cellw (g := b) (k := f + i * 2 + 1) (v := .string (bs h.2)) (R := Is (.string (bs h.2))) (by rfl) (by exact fun _ _ _ h => h) (HE1.out) isAgg_str (stb_is _) (by exact fun _ _ => rfl) ?_
        refine g_bin (v := .string (bs L2)) (u := .string (bs h.2)) (r := .string (bs L3)) (by rfl) (by exact fun _ _ _ h => h) (by exact fun _ _ _ h => h) (by rfl) (HZ3.out) ?_
        refine g_move (R := Is (.string (bs BL))) (by rfl) (stb_is _) (by exact fun _ _ _ h => h) ?_
        refine g_bin (v := .string (bs L3)) (u := .string (bs BL)) (r := .string (bs L4)) (by rfl) (by exact fun _ _ _ h => h) (by exact fun _ _ _ h => h) (by rfl) (HZ4.out) ?_
        refine g_bin (v := .string (bs L4)) (u := .string ⟨#[13, 10]⟩) (r := .string (bs L5)) (by rfl) (by exact fun _ _ _ h => h) (by exact fun _ _ _ h => h) (by rfl) (HZ5.out) ?_
        intro w6 hR6 hb6 v47 h47 v48 h48 v49 h49 v50 h50 v51 h51 v52 h52 v53 h53 v54 h54 v55 h55 v56 h56 v57 h57 v58 h58 v59 h59 v60 h60 v61 h61 v62 h62 v63 h63 v64 h64 v65 h65 v66 h66 v67 h67
        simp only [softEnd, Act.put, List.setIfInBounds_toArray, List.set_cons_succ, List.set_cons_zero, List.drop_succ_cons, List.drop_zero]
        obtain rfl : v47 = .slice (some ⟨g, 0, none⟩) acc.length cap := h47
        obtain rfl : v67 = .string (bs L5) := h67
        clear h48 h49 h50 h51 h52 h53 h54 h55 h56 h57 h58 h59 h60 h61 h62 h63 h64 h65 h66
        have hO6 := HO.out.below hb6
        go_wp2_with (at_builtin; refine wp_appR (w := w) rfl _ _ (by rfl) L5 (by rfl) (by rfl) hO6 (Nat.le_refl _) hR6.below hk2 ?_; intro g' cap' w8 hrow8 hb8 hgr)
        have hR8 := hR6.grown hgr hO6.ge (by
          intro x hx
          rcases List.mem_cons.1 hx with rfl | hx
          · exact rowM_ne hO6 hR6 (List.Mem.head _) (by decide)
          · cases hx)
        go_roundg (q.hs.length - (i + 1))
        case measure => omega
        case rel => exact ⟨i + 1, acc ++ L5, g', cap', by omega, rfl, by first | rfl | rw [List.length_append], by go_num, HA2.out, hrow8, hR8⟩
      · have hltz : ¬ (i : Int) < (q.hs.length : Int) := by omega
        have HA2 : Hid (acc = F0 ++ linesK k q.hs) := Lib.hid (by rw [HA.out, List.take_of_length_le (by omega)])
        have hk2 : acc.length + ([13, 10] : Bs).length ≤ 140737488355328 := by simp only [List.length_cons, List.length_nil]; omega
        go_upto_region 11 with (at_builtin; refine wp_appT (w := w) rfl _ _ (by rfl) [13, 10] (by rfl) (by rfl) HO.out (Nat.le_refl _) hR.below hk2 ?_; intro T g' cap' w8 hT hrow8 hb8 hgr; have HT := Lib.hid hT; clear hT)
        have hR := hR.grown hgr HO.out.ge (by
          intro x hx
          rcases List.mem_cons.1 hx with rfl | hx
          · exact rowM_ne HO.out hR (List.Mem.head _) (by decide)
          · cases hx)
        have hTl : T.length ≤ 10486574 := by rw [HT.out, List.length_append]; simp only [List.length_cons, List.length_nil]; omega
        have HPT : Hid (parseQ T = if 8192 < T.length then .error 152 else .ok (⟨q.m, q.t, q.hs, []⟩, T.length)) := Lib.hid (parse_law HC.out k (by rw [HT.out, HA2.out, HF0.out]))
        clear hb8 hgr f2
        go_upto_region 13 with (first
          | (refine wpList_load_rws rfl _ _ (by rfl) (by exact hR) gb rfl _ _ (by repeat (first | exact List.Mem.head _ | refine List.Mem.tail _ ?_)) _ Tryz.underlying24 rfl (by kernel_rfl) ?_)
          | (refine wQ_alloc (cs := zQ) rfl _ (by rfl) (by exact hR) zero_rq ?_; intro g10 w9 hR hb9 hg9)
          | (refine wQ_store rfl _ _ _ (by rfl) (by exact hR) g10 rfl (rqC q ad c) (by rfl) _ _ _ (by repeat (first | exact Pick.here | apply Pick.there)) (by kernel_rfl) (by kernel_rfl) (by kernel_rfl) ?_; intro w10 hR hsm10 hsz10)
          | (refine wS_storec (g := g10) (k := 3) (new := rqC ⟨q.m, q.t, q.hs, []⟩ ad c) rfl (by rfl) (by exact hR) rfl rfl (by repeat (first | exact Pick.here | apply Pick.there)) rfl (by kernel_rfl) (by exact (show 3 < 4 by decide)) (by rfl) rfl ?_; intro w11 hR hsm11 hsz11))
        have hkp : ∀ k, k < w8.heap.size → w11.heap[k]? = w8.heap[k]? := fun k hk => by rw [hsm11 k (by omega), hsm10 k (by omega), hb9.block k hk]
        have htx := (row_same hrow8 (hkp g' hrow8.lt)).text cap'
        clear hrow8 hkp hsm11 hsz11 hsm10 hsz10 hb9 hg9
        by_cases hbig : 8192 < T.length
        · have hbz : (8192 : Int) < (T.length : Int) := by omega
          have H1 : Hid (∀ u, Below w.heap.size w u → Calls Tryz.prog 10 #[.string (bs T)] u fun e w' => ∃ ad c, e = .returned (.tuple #[.agg (rqC zRq ad c), .int .i64 (0 : Nat), .int .i64 152]) ∧ SlH w' (zRq : Rq).hs ad c ∧ Below u.heap.size u w') := Lib.hid fun u hb => by
            have := HP.out T (by omega) u hb
            rw [v_err (by rw [HPT.out, if_pos hbig])] at this
            exact this
          go_upto_region 14 with (first
            | (go_at_call 10; refine (H1.out _ hR.below).mono ?_; rintro e wa13 ⟨ad13, c13, rfl, hs13, hb13⟩; have hR := hR.call hb13)
            | (refine wQ_alloc (cs := zQ) rfl _ (by rfl) (by exact hR) zero_rq ?_; intro g11 wb13 hR hbw13 hgw13)
            | (refine wQ_store rfl _ _ _ (by rfl) (by exact hR) g11 rfl (rqC zRq ad13 c13) (by rfl) _ _ _ (by repeat (first | exact Pick.here | apply Pick.there)) (by kernel_rfl) (by kernel_rfl) (by kernel_rfl) ?_; intro wc13 hR hsm13 hsz13))
          have hkp13 : ∀ k, k < wa13.heap.size → wc13.heap[k]? = wa13.heap[k]? := fun k hk => by rw [hsm13 k (by omega), hbw13.block k hk]
          have HS13 : Hid (SlH wc13 (zRq : Rq).hs ad13 c13) := Lib.hid (hs13.keep hkp13)
          clear hs13 hb13 hbw13 hgw13 hsm13 hsz13 hkp13
          clear htx
          have HBW := Lib.hid hR.below
          have HFX : Hid (∀ u, Below wc13.heap.size wc13 u → Calls Tryz.prog 18 #[] u (RetB true u)) := Lib.hid fun u hb => fixed_any u (HGW.out.below (HBW.out.trans (hb.mono HBW.out.size)))
          go_wp2_with (go_at_call 18; refine (HFX.out _ (Below.refl _ _)).mono ?_; rintro e w17 ⟨rfl, hb17⟩)
          go_ret
          exact ⟨rfl, HBW.out.trans (hb17.mono HBW.out.size)⟩
        · have hbz : ¬ (8192 : Int) < (T.length : Int) := by omega
          have H1 : Hid (∀ u, Below w.heap.size w u → Calls Tryz.prog 10 #[.string (bs T)] u fun e w' => ∃ ad c, e = .returned (.tuple #[.agg (rqC ⟨q.m, q.t, q.hs, []⟩ ad c), .int .i64 (T.length : Nat), .int .i64 0]) ∧ SlH w' (⟨q.m, q.t, q.hs, []⟩ : Rq).hs ad c ∧ Below u.heap.size u w') := Lib.hid fun u hb => by
            have := HP.out T (by omega) u hb
            rw [v_ok (by rw [HPT.out, if_neg hbig])] at this
            exact this
          go_upto_region 14 with (first
            | (go_at_call 10; refine (H1.out _ hR.below).mono ?_; rintro e wa13 ⟨ad13, c13, rfl, hs13, hb13⟩; have hR := hR.call hb13)
            | (refine wQ_alloc (cs := zQ) rfl _ (by rfl) (by exact hR) zero_rq ?_; intro g11 wb13 hR hbw13 hgw13)
            | (refine wQ_store rfl _ _ _ (by rfl) (by exact hR) g11 rfl (rqC ⟨q.m, q.t, q.hs, []⟩ ad13 c13) (by rfl) _ _ _ (by repeat (first | exact Pick.here | apply Pick.there)) (by kernel_rfl) (by kernel_rfl) (by kernel_rfl) ?_; intro wc13 hR hsm13 hsz13))
          have hkp13 : ∀ k, k < wa13.heap.size → wc13.heap[k]? = wa13.heap[k]? := fun k hk => by rw [hsm13 k (by omega), hbw13.block k hk]
          have HS13 : Hid (SlH wc13 (⟨q.m, q.t, q.hs, []⟩ : Rq).hs ad13 c13) := Lib.hid (hs13.keep hkp13)
          clear hs13 hb13 hbw13 hgw13 hsm13 hsz13 hkp13
          clear htx
          have HBW := Lib.hid hR.below
          obtain ⟨L, hL⟩ : ∃ L, L = labelS q := ⟨_, rfl⟩
          have HLL := Lib.hid hL
          clear hL
          have HSQ0 : Hid (SmallQ ⟨q.m, q.t, q.hs, []⟩) := Lib.hid { m := HSQ.out.m, t := HSQ.out.t, k := HSQ.out.k, b := Nat.zero_le _, h := HSQ.out.h, ln := HSQ.out.ln }
          have HSQW : Hid (∀ u, Below wc13.heap.size wc13 u → SlH u q.hs ad c) := Lib.hid fun u hb => HS0.out.grown (HBW.out.trans (hb.mono HBW.out.size))
          have HSM : Hid (∀ u, Below wc13.heap.size wc13 u → Calls Tryz.prog 12 #[.agg (rqC ⟨q.m, q.t, q.hs, []⟩ ad13 c13), .agg (rqC ⟨q.m, q.t, q.hs, []⟩ ad c)] u (RW (Is (.bool true)) u)) := Lib.hid fun u hb => (same_any ⟨q.m, q.t, q.hs, []⟩ ad13 ad c13 c u (HS13.out.grown hb) (HSQW.out u hb)).mono fun _ _ h => rw_below h
          have HL1 : Hid (∀ u, Below wc13.heap.size wc13 u → Calls Tryz.prog 13 #[.agg (rqC ⟨q.m, q.t, q.hs, []⟩ ad13 c13)] u (RW (Is (.string (bs L))) u)) := Lib.hid fun u hb => by rw [HLL.out]; exact (Label_any ⟨q.m, q.t, q.hs, []⟩ ad13 c13 u (HS13.out.grown hb) HSQ0.out (lab_form HFM.out)).mono fun _ _ h => rw_below h
          have HL2 : Hid (∀ u, Below wc13.heap.size wc13 u → Calls Tryz.prog 13 #[.agg (rqC q ad c)] u (RW (Is (.string (bs L))) u)) := Lib.hid fun u hb => by rw [HLL.out]; exact (Label_any q ad c u (HSQW.out u hb) HSQ.out (lab_form HFM.out)).mono fun _ _ h => rw_below h
          have HFX : Hid (∀ u, Below wc13.heap.size wc13 u → Calls Tryz.prog 18 #[] u (RW (Is (.bool true)) u)) := Lib.hid fun u hb => (fixed_any u (HGW.out.below (HBW.out.trans (hb.mono HBW.out.size)))).mono fun _ _ h => rw_below h
          go_upto_region 16 with fail
          refine wp_region_softG 23 (by kernel_rfl) (by kernel_rfl) (by rfl) hR ?_
          refine g_move (R := Is (.int .i64 0)) (by rfl) (stb_is _) (by exact fun _ _ _ h => h) ?_
          refine g_bin (v := .int .i64 0) (u := .int .i64 0) (r := .bool true) (by rfl) (by exact fun _ _ _ h => h) (by exact fun _ _ _ h => h) (by rfl) (fun W => bin_eqe (r := true) _ _ (by simp) W) ?_
          refine g_move (R := Is (.bool true)) (by rfl) (stb_is _) (by exact fun _ _ _ h => h) ?_
          refine g_move (R := Is (.int .i64 (T.length : Nat))) (by rfl) (stb_is _) (by exact fun _ _ _ h => h) ?_
          refine g_move (R := Is (.slice (some ⟨g', 0, none⟩) T.length cap')) (by rfl) (stb_is _) (by exact fun _ _ _ h => h) ?_
          refine g_lenB (g := g') (m := T.length) (c := cap') (by rfl) (by exact fun _ _ _ h => h) ?_
          refine g_bin (v := .int .i64 (T.length : Nat)) (u := .int .i64 (T.length : Nat)) (r := .bool true) (by rfl) (by exact fun _ _ _ h => h) (by exact fun _ _ _ h => h) (by rfl) (fun W => bin_eqi (r := true) _ _ (by simp) W) ?_
          refine g_pick (b := true) (R := Is (.bool true)) (by rfl) (by exact fun _ _ _ h => h) (stb_is _) (by exact fun _ _ _ h => h) ?_
          refine g_move (R := Is (.bool true)) (by rfl) (stb_is _) (by exact fun _ _ _ h => h) ?_
          refine g_ldw (g := g11) (cs := (rqC ⟨q.m, q.t, q.hs, []⟩ ad13 c13)) (R := Is (.agg (rqC ⟨q.m, q.t, q.hs, []⟩ ad13 c13))) (by rfl) (by exact fun _ _ _ h => h) (by repeat (first | exact List.Mem.head _ | refine List.Mem.tail _ ?_)) Tryz.underlying24 rfl rq_inf (stb_is _) (by exact fun _ _ => rfl) ?_
          refine g_ldw (g := g10) (cs := (rqC ⟨q.m, q.t, q.hs, []⟩ ad c)) (R := Is (.agg (rqC ⟨q.m, q.t, q.hs, []⟩ ad c))) (by rfl) (by exact fun _ _ _ h => h) (by repeat (first | exact List.Mem.head _ | refine List.Mem.tail _ ?_)) Tryz.underlying24 rfl rq_inf (stb_is _) (by exact fun _ _ => rfl) ?_
          refine g_callK (f := 12) (xs := [.tmp 97, .tmp 98]) [.agg (rqC ⟨q.m, q.t, q.hs, []⟩ ad13 c13), .agg (rqC ⟨q.m, q.t, q.hs, []⟩ ad c)] (R := Is (.bool true)) (by rfl) Tryz.func12 (by kernel_rfl) rfl (stb_is _) ⟨(by exact fun _ _ _ h => h), (by exact fun _ _ _ h => h), trivial⟩ (HSM.out) ?_
          refine g_pick (b := true) (R := Is (.bool true)) (by rfl) (by exact fun _ _ _ h => h) (stb_is _) (by exact fun _ _ _ h => h) ?_
          refine g_move (R := Is (.bool true)) (by rfl) (stb_is _) (by exact fun _ _ _ h => h) ?_
          refine g_ldw (g := g11) (cs := (rqC ⟨q.m, q.t, q.hs, []⟩ ad13 c13)) (R := Is (.agg (rqC ⟨q.m, q.t, q.hs, []⟩ ad13 c13))) (by rfl) (by exact fun _ _ _ h => h) (by repeat (first | exact List.Mem.head _ | refine List.Mem.tail _ ?_)) Tryz.underlying24 rfl rq_inf (stb_is _) (by exact fun _ _ => rfl) ?_
          refine g_callK (f := 13) (xs := [.tmp 102]) [.agg (rqC ⟨q.m, q.t, q.hs, []⟩ ad13 c13)] (R := Is (.string (bs L))) (by rfl) Tryz.func13 (by kernel_rfl) rfl (stb_is _) ⟨(by exact fun _ _ _ h => h), trivial⟩ (HL1.out) ?_
          refine g_ldw (g := gb) (cs := (rqC q ad c)) (R := Is (.agg (rqC q ad c))) (by rfl) (by exact fun _ _ _ h => h) (by repeat (first | exact List.Mem.head _ | refine List.Mem.tail _ ?_)) Tryz.underlying24 rfl rq_inf (stb_is _) (by exact fun _ _ => rfl) ?_
          refine g_callK (f := 13) (xs := [.tmp 104]) [.agg (rqC q ad c)] (R := Is (.string (bs L))) (by rfl) Tryz.func13 (by kernel_rfl) rfl (stb_is _) ⟨(by exact fun _ _ _ h => h), trivial⟩ (HL2.out) ?_
          refine g_bin (v := .string (bs L)) (u := .string (bs L)) (r := .bool true) (by rfl) (by exact fun _ _ _ h => h) (by exact fun _ _ _ h => h) (by rfl) (fun W => bin_eqs (r := true) _ _ (by simp) W) ?_
          refine g_pick (b := true) (R := Is (.bool true)) (by rfl) (by exact fun _ _ _ h => h) (stb_is _) (by exact fun _ _ _ h => h) ?_
          refine g_move (R := Is (.bool true)) (by rfl) (stb_is _) (by exact fun _ _ _ h => h) ?_
          refine g_callK (f := 18) (xs := []) [] (R := Is (.bool true)) (by rfl) Tryz.func18 (by kernel_rfl) rfl (stb_is _) trivial (HFX.out) ?_
          refine g_pick (b := true) (R := Is (.bool true)) (by rfl) (by exact fun _ _ _ h => h) (stb_is _) (by exact fun _ _ _ h => h) ?_
          intro w9 hR9 hb9 v88 h88 v89 h89 v90 h90 v91 h91 v92 h92 v93 h93 v94 h94 v95 h95 v96 h96 v97 h97 v98 h98 v99 h99 v100 h100 v101 h101 v102 h102 v103 h103 v104 h104 v105 h105 v106 h106 v107 h107 v108 h108 v109 h109 v110 h110
          simp only [softEnd, Act.put, List.setIfInBounds_toArray, List.set_cons_succ, List.set_cons_zero, List.drop_succ_cons, List.drop_zero]
          obtain rfl : v110 = .bool true := h110
          clear h88 h89 h90 h91 h92 h93 h94 h95 h96 h97 h98 h99 h100 h101 h102 h103 h104 h105 h106 h107 h108 h109
          go_wp2_with fail
          go_ret
          exact ⟨rfl, hR9.below⟩
  · obtain ⟨E, hE⟩ : ∃ E, E = checkS q := ⟨_, rfl⟩
    have hEz : (E == 0) = false := by rw [hE]; simpa using hc
    have HPR : Hid (∀ u, Below w.heap.size w u → Calls Tryz.prog 19 #[rqv q ad c] u fun e w' => e = .returned (.tuple #[.string ⟨#[]⟩, .int .i64 E]) ∧ Below u.heap.size u w') := Lib.hid fun u hb => by
      have := HPR0.out u hb
      rw [show printS q = ([], E) by unfold printS; rw [if_neg hc, hE]] at this
      exact this
    clear hE hc HPR0 hs hq HP
    go_enter Tryz.func9, Tryz.ntmps9
    go_upto_region 2 with (first
      | (refine wpList_box_rws rfl _ _ (by rfl) (by exact hR) (rqC q ad c) rfl ?_; intro gb w1 hR)
      | (refine wpList_load_rws rfl _ _ (by rfl) (by exact hR) gb rfl _ _ (by repeat (first | exact List.Mem.head _ | refine List.Mem.tail _ ?_)) _ Tryz.underlying24 rfl (by kernel_rfl) ?_)
      | (go_at_call 19; refine (HPR.out _ hR.below).mono ?_; rintro e w2 ⟨rfl, hb2⟩; have hR := hR.call hb2))
    have HBW := Lib.hid hR.below
    have HFX : Hid (∀ u, Below w2.heap.size w2 u → Calls Tryz.prog 18 #[] u (RetB true u)) := Lib.hid fun u hb => fixed_any u (HGW.out.below (HBW.out.trans (hb.mono HBW.out.size)))
    go_wp2_with (go_at_call 18; refine (HFX.out _ (Below.refl _ _)).mono ?_; rintro e w17 ⟨rfl, hb17⟩)
    go_ret
    exact ⟨rfl, HBW.out.trans (hb17.mono HBW.out.size)⟩
end Go.Proofs.YtipjkjcmceeaeaaGreatDoor.httpCases
