/- nat.Trim and limbs.form: the walks. -/
import Derived.Test.YtbmhiejggkdnkaaGreatDoorForm0
namespace Go.Proofs.YtbmhiejggkdnkaaGreatDoor
open Go.RowKit

theorem Trim_any (s : ByteArray) (w : World) :
    Calls Tryz.prog 22 #[.string s] w fun e w' => e = .returned (.string ⟨(fm (bv s.data.toList)).toArray⟩) ∧ w = w' := by
  have ht := trim_fm s.data.toList
  have HT := Lib.hid ht; clear ht
  go_enter Tryz.func22, Tryz.ntmps22
  go_wp2_with (go_at_call 43; refine (Tryz.strings_TrimLeft_one s 0 (by decide) _).mono ?_; rintro e w' ⟨rfl, rfl⟩; rw [HT.out])
  go_ret
  exact ⟨rfl, rfl⟩

theorem info8 : (Tryz.prog.info? 5).map (fun i => (i.zero, i.size, i.bytes)) = some (some (.int .u8 0), 1, 1) := by kernel_rfl

/-- The value is a slice of the call's own (blocks from B on) that holds these bytes. -/
def Buf (w : World) (B : Nat) (v : Value) (l : List UInt8) : Prop :=
  w.ownsRow B 5 1 v l.length (l.map fun c => Value.int .u8 (c.toNat : Nat))

theorem Buf.own {w : World} {B : Nat} {v : Value} {l : List UInt8} (h : Buf w B v l) : w.ownsRow B 5 1 v l.length (l.map fun c => Value.int .u8 (c.toNat : Nat)) := h

theorem byte_cells (l : List UInt8) : ∀ u ∈ (l.map fun c => Value.int .u8 (c.toNat : Nat)), u.oneCell' = true := by
  intro u hu
  obtain ⟨c, _, rfl⟩ := List.mem_map.1 hu
  rfl

theorem Buf.below {w w' : World} {B : Nat} {v : Value} {l : List UInt8} (h : Buf w B v l) (hb : Below w.heap.size w w') : Buf w' B v l := by
  obtain ⟨h1, h2⟩ := h
  refine ⟨h1, ?_⟩
  rcases h2 with h2 | ⟨g, cap, cur, hv, hg, hh, r⟩
  · exact Or.inl h2
  · exact Or.inr ⟨g, cap, cur, hv, hg, by rw [hb.block g (by have := (Array.getElem?_eq_some_iff.1 hh).1; omega)]; exact hh, r⟩

/-- 'append(b, ..)' of some bytes. -/
theorem wpList_append_buf (w : World) {ops : Array Oper} {rest : List Oper} {o : Oper} {a : Act} {Q : Exit → Act → World → Prop} (hgd : o.guard = none) (s x : Operand) (t : TypeId)
    (ho : o.op = .call { callee := .builtin .append, args := #[s, x], argTypes := #[t, t] }) (ht : Tryz.prog.underlying t = some (.slice 5)) (B : Nat) (v : Value) (l : List UInt8) (hs : a.eval s = v) (hb : Buf w B v l)
    (ad : Addr) (m c : Nat) (cs : List UInt8) (hx : a.eval x = .slice (some ad) m c) (hl : cs.length = m) (hnews : ∀ j u, (cs.map fun c => Value.int .u8 (c.toNat : Nat))[j]? = some u → w.cell? (ad.add j) = some u)
    (hlen : l.length + m ≤ 140737488355328) (hbase : B ≤ w.heap.size) (w0 : World) (hw0 : Below B w0 w)
    (h : ∀ v' w', Buf w' B v' (l ++ cs) → Below B w0 w' → (v' = .slice none 0 0 ↔ v = .slice none 0 0 ∧ m = 0) → wpList Tryz.prog ops Q rest (a.put o.dst v') w') : wpList Tryz.prog ops Q (o :: rest) a w := by
  obtain ⟨i, hi, hz0, hz1, hz2⟩ := info_parts info8
  refine wpList_append_own w hgd s x t ho B 5 i (.int .u8 0) 1 1 ht hi hz0 hz1 hz2 rfl (by decide) v l.length _ hs hb ad m c (cs.map fun c => Value.int .u8 (c.toNat : Nat)) hx (by simp [hl]) hnews (byte_cells cs) (by unfold maxLen; omega) (by omega) hbase ?_
  intro v' w' hown hgr hnil
  refine h v' w' ?_ (hw0.grown hgr hbase ?_) hnil
  · unfold Buf
    rw [List.length_append, List.map_append, hl]; exact hown
  · intro k hk
    exact (hb.lt k hk).1

/-- What a new block holds. -/
theorem new_cells (w : World) (arr : Array Value) (e : TypeId) : ∀ (j : Nat) (u : Value), arr.toList[j]? = some u → (w.alloc (.cells arr e)).cell? ((⟨w.heap.size, 0, none⟩ : Addr).add j) = some u := by
  intro j u hj
  rw [Addr.add_lit, Nat.zero_add]
  have hh : (w.alloc (.cells arr e)).heap[w.heap.size]? = some (.cells arr e (0, 0)) := heap_alloc_new w _
  simp only [World.cell?, hh, Option.isSome_none, Bool.false_eq_true, if_false]
  rw [← Array.getElem?_toList]; exact hj

set_option maxRecDepth 100000 in
/-- 'string(b)' of such a slice. -/
theorem run_string_buf {w : World} {B : Nat} {v : Value} {l : List UInt8} (h : Buf w B v l) :
    (convert 59 9 v).run Tryz.prog w = .ok (.string ⟨l.toArray⟩) w := by
  have hown := h.own
  rcases h.2 with ⟨rfl, h0⟩ | ⟨g, cap, cur, rfl, _⟩
  · have : l = [] := List.eq_nil_of_length_eq_zero h0
    subst this
    exact run_convert_bytes_nil _ _ _ Tryz.underlying59 Tryz.underlying5 0 0 _ Tryz.underlying9
  · have hr := run_convert_bytes_arg w 59 5 Tryz.underlying59 Tryz.underlying5 g 0 l.length cap (l.map fun c => ((c.toNat : Nat) : Int)) (by simp) (fun i hi => by
      rw [Nat.zero_add, hown.cellAt i (by omega), List.getElem?_map, List.getElem?_eq_getElem hi]
      simp [List.getD, List.getElem?_eq_getElem hi]) 9 Tryz.underlying9
    rw [hr]
    congr 2
    unfold strOfNums
    congr 1
    rw [List.map_map]
    congr 1
    refine (List.map_congr_left fun c _ => ?_).trans (List.map_id l)
    simp

set_option maxRecDepth 100000 in
set_option maxHeartbeats 800000 in
theorem form_any (ao : Option Addr) (n c v : Nat) (w : World) (ha : Num w ao n c v) (hn : n ≤ 10000000) :
    Calls Tryz.prog 40 #[.slice ao n c] w fun e w' => e = .returned (.string ⟨(fm v).toArray⟩) ∧ Below w.heap.size w w' := by
  have hv : v < LB ^ n := ha.lt
  have HV := Lib.hid hv; clear hv
  obtain ⟨i8, hi8, hz0, hz1, hz2⟩ := info_parts info8
  go_enter Tryz.func40, Tryz.ntmps40
  go_wp2_with (refine wpList_make_own _ rfl _ (.tmp 8) _ rfl w.heap.size 5 i8 (.int .u8 0) 1 Tryz.underlying59 hi8 hz0 hz1 .i64 .i64 _ (4 * n) rfl rfl (by omega) (by rw [hz2]; omega) (by unfold maxLen; omega) (Nat.le_refl _) ?_; intro w1 hown1 hgr1)
  have hb1 : Below w.heap.size w w1 := (Below.refl _ _).grown hgr1 (Nat.le_refl _) (by simp)
  have hbuf1 : Buf w1 w.heap.size (.slice (some ⟨w.heap.size, 0, none⟩) 0 (4 * n)) (pre v n 0) := hown1
  have hs1 : w.heap.size ≤ w1.heap.size := hb1.size
  clear hown1 hgr1
  go_loopw [3, 12] (fun bv iv wr => ∃ k : Nat, k ≤ n ∧ iv = .int .i64 k ∧ Buf wr w.heap.size bv (pre v n k) ∧ Below w.heap.size w wr) (fun _ iv _ => n - (intOf iv).toNat)
  case atStart => exact ⟨0, Nat.zero_le _, rfl, hbuf1, hb1⟩
  case round =>
    obtain ⟨i, hi, rfl, hbuf, hbel⟩ := hrel
    clear hbuf1
    have hsz := hbel.size
    by_cases hin : i < n
    · have hca : wr.cell? ⟨blk ao, off ao + (n - 1 - i), none⟩ = some (.int .u32 (Dg.dg LB v (n - 1 - i) : Nat)) := (ha.rd.below hbel (Nat.le_refl _)).cell _ (by omega)
      have hsa := ha.rd.sh
      obtain ⟨x, hx⟩ : ∃ x, x = Dg.dg LB v (n - 1 - i) := ⟨_, rfl⟩
      rw [← hx] at hca
      have hxl : x < 4294967296 := by rw [hx]; exact Dg.dg_lt LBpos _ _
      have HX := Lib.hid hx; clear hx
      obtain ⟨cs, hcs⟩ : ∃ cs, cs = [UInt8.ofNat (x / 16777216 % 256), UInt8.ofNat (x / 65536 % 256), UInt8.ofNat (x / 256 % 256), UInt8.ofNat (x % 256)] := ⟨_, rfl⟩
      have hcl : cs.length = 4 := by rw [hcs]; rfl
      have hcv : (cs.map fun c => Value.int .u8 (c.toNat : Nat)) = [Value.int .u8 ((x : Int) / 16777216), Value.int .u8 ((x : Int) / 65536 % 256), Value.int .u8 ((x : Int) / 256 % 256), Value.int .u8 ((x : Int) % 256)] := by
        rw [hcs]
        simp only [List.map_cons, List.map_nil]
        rw [toNat_ofNat8 _ (Nat.mod_lt _ (by omega)), toNat_ofNat8 _ (Nat.mod_lt _ (by omega)), toNat_ofNat8 _ (Nat.mod_lt _ (by omega)), toNat_ofNat8 _ (Nat.mod_lt _ (by omega))]
        have e : x / 16777216 % 256 = x / 16777216 := by omega
        rw [e]
        simp
      have hps : pre v n (i + 1) = pre v n i ++ cs := by rw [hcs]; exact pre_succ v n i hin x HX.out
      have hpl : (pre v n i).length + 4 ≤ 140737488355328 := by rw [pre_length]; omega
      have HCS := Lib.hid hcs; have HCV := Lib.hid hcv; have HPS := Lib.hid hps; have HPL := Lib.hid hpl; have HCL := Lib.hid hcl
      clear hcs hcv hps hpl hcl
      go_wp2_with (at_builtin; refine wpList_append_buf _ rfl (.tmp 23) (.tmp 35) _ rfl Tryz.underlying59 w.heap.size _ (pre v n i) rfl (hbuf.below ((Below.refl _ _).alloc (Nat.le_refl _) _)) ⟨wr.heap.size, 0, none⟩ 4 4 cs rfl HCL.out ?h1 HPL.out (by simp; omega) w (hbel.alloc (by omega) _) ?_; rotate_left; intro v' w2 hbuf2 hbel2 _)
      case h1 => rw [HCV.out]; exact new_cells _ _ _
      go_roundw
      case rel => exact ⟨i + 1, by omega, by go_num, by rw [HPS.out]; exact hbuf2, hbel2⟩
      case measure => simp [intOf]; omega
    · obtain rfl : i = n := by omega
      have hcv := run_string_buf hbuf
      have hfin : fm (bv (⟨(pre v i i).toArray⟩ : ByteArray).data.toList) = fm v := by
        have e : (⟨(pre v i i).toArray⟩ : ByteArray).data.toList = pre v i i := rfl
        rw [e, pre_all, bv_pb, Nat.mod_eq_of_lt]
        have h := HV.out
        rwa [show LB = 256 ^ 4 from rfl, ← Nat.pow_mul] at h
      have HFIN := Lib.hid hfin; clear hfin
      go_wp2_with (go_at_call 22; refine (Trim_any _ _).mono ?_; rintro e w' ⟨rfl, rfl⟩; rw [HFIN.out])
      go_ret
      exact ⟨rfl, hbel⟩
end Go.Proofs.YtbmhiejggkdnkaaGreatDoor
