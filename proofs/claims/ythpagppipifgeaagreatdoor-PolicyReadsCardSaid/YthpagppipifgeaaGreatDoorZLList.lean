/- reader.list: the walk. -/
import Derived.Test.YthpagppipifgeaaGreatDoorZLB
import Derived.Test.YthpagppipifgeaaGreatDoorZLApp
namespace Go.Proofs.YthpagppipifgeaaGreatDoor
open Go.RowKit

section
variable {B : Nat} {w0 w w' : World} {L : List (Nat × Array Value × TypeId)}
variable {P : Program} {o : Oper} {a : Act} {Q : Exit → Act → World → Prop} {ops : Array Oper} {rest : List Oper}
/-- As wpList_alloc_rws; what was there is as it was. -/
theorem wQ_alloc (hgd : o.guard = none) (ty : TypeId) (ho : o.op = .alloc ty) (h : Rws B w0 w L) (cs : Array Value) (hz : ∀ w : World, (zeroValue ty).run P w = .ok (.agg cs) w)
    (hK : ∀ g w', Rws B w0 w' ((g, cs, ty) :: L) → Below w.heap.size w w' → w.heap.size ≤ g → wpList P ops Q rest (a.put o.dst (.pointer (some ⟨g, 0, none⟩))) w') : wpList P ops Q (o :: rest) a w := by
  refine wpList_plain hgd fun K hKK => ?_
  unfold Oper.wp execOp
  simp only [ho, Instr.alloc, Sem.run_bind, hz, Result.andThen_ok]
  exact hKK _ _ (hK _ _ (h.alloc cs ty) (b_alloc _ _) (Nat.le_refl _))
/-- As wpList_store_rws; all other blocks are as they were. -/
theorem wQ_store (hgd : o.guard = none) (ty : TypeId) (x y : Operand) (ho : o.op = .store ty x y) (h : Rws B w0 w L) (g : Nat) (hx : a.eval x = .pointer (some ⟨g, 0, none⟩))
    (new : Array Value) (hy : a.eval y = .agg new) (cs : Array Value) (t : TypeId) (L' : List (Nat × Array Value × TypeId)) (hm : Pick L (g, cs, t) L')
    (hi : (P.info? ty).map (·.size) = some new.size) (hc : cs.size = new.size) (h1 : new.all (·.oneCell') = true)
    (hK : ∀ w', Rws B w0 w' ((g, new, t) :: L') → (∀ k, k ≠ g → w'.heap[k]? = w.heap[k]?) → w'.heap.size = w.heap.size → wpList P ops Q rest (a.put o.dst undef) w') : wpList P ops Q (o :: rest) a w := by
  refine wpList_plain hgd fun K hKK => ?_
  unfold Oper.wp execOp
  simp only [ho, hx, hy, Instr.storeAt, Instr.sureAddr, Sem.run_bind, Sem.run_pure, Result.andThen_ok, run_storeVar_row w g t ty cs new (h.row _ hm.mem).2 hi hc h1]
  refine hKK _ _ (hK _ (h.set hm new) (fun k hk => ?_) (size_setRow _ _ _))
  simp only [World.setRow, Array.getElem?_modify]
  rw [if_neg (fun e => hk e.symm)]
end

theorem Rws.grown {B gl : Nat} {w0 w w' : World} {L : List (Nat × Array Value × TypeId)} (h : Rws B w0 w L) (hg : w.grownBy w' (some gl)) (hB : B ≤ gl) (hne : ∀ x, x ∈ L → x.1 ≠ gl) : Rws B w0 w' L := by
  have hb : ∀ k, k < w.heap.size → k ≠ gl → w'.heap[k]? = w.heap[k]? := fun k hk hn => hg.block k hk (fun e => hn (Option.some.inj e))
  refine ⟨⟨hg.os.trans h.below.os, hg.tape.trans h.below.tape, hg.output.trans h.below.output, Nat.le_trans h.below.size hg.size, fun k hk => ?_⟩, Nat.le_trans h.len hg.size, fun x hx => ⟨(h.row x hx).1, (hb _ (h.lt hx) (hne x hx)).trans (h.row x hx).2⟩, h.nd⟩
  exact (hb k (Nat.lt_of_lt_of_le hk h.len) (by omega)).trans (h.below.block k hk)
/-- What a reading call answers; the policy's parts lie in memory of its own. -/
def PQ (rb : Nat) (o : PRes) (w : World) : Ending → World → Prop := fun e w' =>
  match o with
  | some (p, r) => (∃ ad c, e = .returned (.tuple #[pv p.k p.o p.n p.t ad p.kids.len c, .nilIface]) ∧ SlQ (fun k => w.heap.size ≤ k) w' p.kids ad c) ∧ p.n.size ≤ SB ∧ p.t.size ≤ SB ∧ r.length ≤ 1024 ∧ Mv rb r w w'
  | none => (∃ k o n t ad l c why, e = .returned (.tuple #[pv k o n t ad l c, wrapV why])) ∧ ∃ u : List UInt8, u.length ≤ 1024 ∧ Mv rb u w w'
theorem err_neq (why : ByteArray) (w : World) : (binOp .neq 53 (wrapV why) .nilIface).run Tryz.prog w = .ok (.bool true) w := by kernel_rfl
theorem nil_neq (w : World) : (binOp .neq 53 .nilIface .nilIface).run Tryz.prog w = .ok (.bool false) w := by kernel_rfl
theorem err_guard (i : Nat) (why : ByteArray) (w : World) : (eqGuard .neq 53 (.tmp i) (.const .nilIface) (wrapV why) .nilIface).run Tryz.prog w = .ok () w := by kernel_rfl
theorem nil_guard (i : Nat) (w : World) : (eqGuard .neq 53 (.tmp i) (.const .nilIface) .nilIface .nilIface).run Tryz.prog w = .ok () w := by kernel_rfl
theorem info_pol : (Tryz.prog.info? 24).map (fun i => (i.zero, i.size, i.bytes)) = some (some (.agg zP), 5, 72) := by kernel_rfl

set_option maxRecDepth 100000 in
set_option maxHeartbeats 4000000 in
theorem list_any (F lv : Nat) (hlv : lv ≤ 1) (g : Nat) (eg : ∀ args w, (callFunc g args).run Tryz.prog w = .ok (.enter g args) w) (rb : Nat)
    (hp : ∀ f s w, f < F → At rb s w → s.length ≤ 1024 → 4 * s.length + lv + 1 ≤ f → Calls Tryz.prog g #[.pointer (some ⟨rb, 0, none⟩)] w (PQ rb (parseS f lv s) w))
    (s : List UInt8) (w : World) (ha : At rb s w) (hs : s.length ≤ 1024) (hF : 4 * s.length + lv + 2 ≤ F) :
    Calls Tryz.prog 77 #[.pointer (some ⟨rb, 0, none⟩), .int .i64 (kOf lv), .string (bs (wOf lv)), .func (.func g) #[.pointer (some ⟨rb, 0, none⟩)] #[]] w (PQ rb (parseS F (lv + 1) s) w) := by
  obtain ⟨F', rfl⟩ : ∃ F', F = F' + 1 := ⟨F - 1, by omega⟩
  rw [parseS_list]
  have hR := Rws.start w
  have hrb := ha.lt
  have HP := Lib.hid hp
  have hne := err_neq
  have hnn := nil_neq
  have hng := nil_guard
  have heg := err_guard
  clear hp
  cases hr : parseS F' lv s with
  | none =>
    go_enter Tryz.func77, Tryz.ntmps77
    go_upto_region 1 with (refine wQ_alloc (cs := zP) rfl _ (by rfl) (by assumption) zero_pol ?_; intro g0 w1 hR hb1 hg0)
    go_wp2_with (first
      | (go_at_fn g; refine (HP.out F' s _ (by omega) (hR.at_ ha hrb) hs (by omega)).mono ?_; rw [hr]; rintro e w2 ⟨⟨k, o, n, t, ad, l, c, why, rfl⟩, u, hul, hm⟩; obtain ⟨n2, hR, HM2, hz2⟩ := hR.move ha hrb rfl hm)
      | (refine wQ_alloc (cs := zP) rfl _ (by rfl) (by assumption) zero_pol ?_; intro g1 w3 hR hb3 hg1)
      | (refine wpList_load_rws rfl _ _ (by rfl) (by assumption) _ rfl _ _ (by repeat (first | exact List.Mem.head _ | refine List.Mem.tail _ ?_)) _ Tryz.underlying24 rfl (by kernel_rfl) ?_)
      | (refine wQ_store rfl _ _ _ (by rfl) (by assumption) _ rfl #[.int .i64 k, .int .i64 o, .string n, .string t, .slice ad l c] (by rfl) _ _ _ (by repeat (first | exact Pick.here | apply Pick.there)) (by kernel_rfl) (by kernel_rfl) (by kernel_rfl) ?_; intro w4 hR hsm hsz))
    refine bodyPost_rws2 rfl (by assumption) g0 rfl _ _ (List.Mem.head _) _ Tryz.underlying24 rfl (by kernel_rfl) _ rfl rfl (fun hbz => ?_)
    exact ⟨⟨_, _, _, _, _, _, _, why, rfl⟩, u, hul, HM2.then (hz2.symm ▸ hbz)⟩
  | some p =>
    obtain ⟨p, r⟩ := p
    go_enter Tryz.func77, Tryz.ntmps77
    go_upto_region 1 with (refine wQ_alloc (cs := zP) rfl _ (by rfl) (by assumption) zero_pol ?_; intro g0 w1 hR hb1 hg0)
    have hg0l : g0 < w1.heap.size := hR.lt (List.Mem.head _)
    go_upto_region 4 with (first
      | (go_at_fn g; refine (HP.out F' s _ (by omega) (hR.at_ ha hrb) hs (by omega)).mono ?_; rw [hr]; rintro e w2 ⟨⟨ap, cp, rfl, hsl⟩, hpn, hpt, hrl, hm⟩; obtain ⟨n2, hR, HM2, hz2⟩ := hR.move ha hrb rfl hm)
      | (refine wQ_alloc (cs := zP) rfl _ (by rfl) (by assumption) zero_pol ?_; intro g1 w3 hR hb3 hg1)
      | (refine wQ_store rfl _ _ _ (by rfl) (by assumption) _ rfl #[.int .i64 p.k, .int .i64 p.o, .string p.n, .string p.t, .slice ap p.kids.len cp] (by rfl) _ _ _ (by repeat (first | exact Pick.here | apply Pick.there)) (by kernel_rfl) (by kernel_rfl) (by kernel_rfl) ?_; intro w4 hR hsm hsz))
    have hg1l : g1 < w4.heap.size := hR.lt (List.Mem.head _)
    have hk4 : ∀ k, k < w2.heap.size → w4.heap[k]? = w2.heap[k]? := fun k hk => (hsm k (by omega)).trans (hb3.block k hk)
    have hz24 : w2.heap.size ≤ w4.heap.size := by rw [hsz]; exact hb3.size
    have hB4 : w.heap.size ≤ w4.heap.size := Nat.le_trans hb1.size (Nat.le_trans hm.size hz24)
    have hz12 : w1.heap.size ≤ w2.heap.size := hm.size
    clear hsm hb3 hm hsz
    go_upto_region 5 with (refine wpList_load_rws rfl _ _ (by rfl) (by assumption) _ rfl _ _ (by repeat (first | exact List.Mem.head _ | refine List.Mem.tail _ ?_)) _ Tryz.underlying24 rfl (by kernel_rfl) ?_)
    obtain ⟨w5, hw5⟩ : ∃ w5, w5 = w4.alloc (.cells #[.int .i64 p.k, .int .i64 p.o, .string p.n, .string p.t, .slice ap p.kids.len cp] 24) := ⟨_, rfl⟩
    rw [← hw5]
    have hb5 : Below w4.heap.size w4 w5 := by rw [hw5]; exact b_alloc _ _
    have hown : w5.ownsRow w.heap.size 24 5 (.slice (some ⟨w4.heap.size, 0, none⟩) 1 1) 1 (pcl p ap cp) :=
      ⟨rfl, .inr ⟨w4.heap.size, 1, #[.int .i64 p.k, .int .i64 p.o, .string p.n, .string p.t, .slice ap p.kids.len cp], rfl, hB4, by rw [hw5]; exact heap_alloc_new _ _, Nat.le_refl _, by decide, rfl, rfl⟩⟩
    have hR5 := hR.call hb5
    have hsl5 : SlQ (fun k => w.heap.size ≤ k ∧ k ≠ g0 ∧ k ≠ g1 ∧ k ≠ w4.heap.size) w5 p.kids ap cp :=
      hsl.same (fun k hk hlt => ⟨Nat.le_trans hb1.size hk, by omega, by omega, by omega⟩)
        (fun k hk hlt => (hb5.block k (by omega)).trans (hk4 k hlt))
    have hcons : (Fo.cons p.k p.o p.n p.t p.kids .nil).len = 1 := rfl
    have hchk : Chk (fun k => w.heap.size ≤ k ∧ k ≠ g0 ∧ k ≠ g1 ∧ k ≠ w4.heap.size) w5 (.cons p.k p.o p.n p.t p.kids .nil) (pcl p ap cp) := ⟨ap, cp, [], by simp, hpn, hpt, hsl5, rfl⟩
    have hrs := parseS_le hr
    have hs4 : g0 ≠ w4.heap.size ∧ g1 ≠ w4.heap.size := ⟨by omega, by omega⟩
    have hB5 : w.heap.size ≤ w5.heap.size := hR5.len
    clear hw5 hsl hk4 hR
    go_loopg [12] F' (fun gg s12 wr => ∃ (f : Nat) (acc : Fo) (q : Po) (s' : List UInt8) (aq : Option Addr) (cq : Nat) (xs : List Value) (wn : World) (gl cap : Nat),
      gg = f ∧ s12 = .slice (some ⟨gl, 0, none⟩) acc.len cap ∧ Aside (loopS f lv acc q s' = loopS F' lv (.cons p.k p.o p.n p.t p.kids .nil) p r) ∧ 4 * s'.length + lv + 1 ≤ f ∧ f ≤ F' ∧ acc.len + s'.length ≤ 1025 ∧ 1 ≤ acc.len
      ∧ Aside (Rws w.heap.size wn wr [(g1, #[.int .i64 q.k, .int .i64 q.o, .string q.n, .string q.t, .slice aq q.kids.len cq], 24), (g0, zP, 24)]) ∧ Aside (Mv rb s' w wn) ∧ Aside (wn.heap.size = w.heap.size)
      ∧ Aside (wr.ownsRow w.heap.size 24 5 (.slice (some ⟨gl, 0, none⟩) acc.len cap) acc.len xs) ∧ Aside (Chk (fun k => w.heap.size ≤ k ∧ k ≠ g0 ∧ k ≠ g1 ∧ k ≠ gl) wr acc xs)
      ∧ Aside (g0 ≠ gl ∧ g1 ≠ gl) ∧ Aside (acc.len = 1 → acc = .cons q.k q.o q.n q.t q.kids .nil) ∧ Aside (SlQ (fun k => w.heap.size ≤ k ∧ k ≠ g0 ∧ k ≠ g1 ∧ k ≠ gl) wr q.kids aq cq) ∧ Aside (q.n.size ≤ SB ∧ q.t.size ≤ SB))
    case atStart =>
      exact ⟨F', _, p, r, ap, cp, _, n2, w4.heap.size, 1, rfl, rfl, rfl, by omega, Nat.le_refl _, by rw [hcons]; omega, by rw [hcons]; omega, hR5, HM2, hz2, hown, hchk, hs4, fun _ => rfl, hsl5, hpn, hpt⟩
    case round =>
      obtain ⟨f, acc, q, s', aq, cq, xs, wn, gl, cap, rfl, rfl, HA, hfu, hfF, hac, ha1, HR, HM, HZ, HO, HCK, HNB, H1, HSQ, HQS⟩ := hrel
      obtain ⟨f', rfl⟩ : ∃ f', gk = f' + 1 := ⟨gk - 1, by omega⟩
      have hRr := HR.out
      have hHM := HM.out
      have hs'l : s'.length ≤ 1024 := by omega
      have htl := trL_le s'
      have HHP := HP
      clear HR hR5 hown hchk hsl5 hcons hrs hs4 hb5 HM2 hr
      cases hw : wordS (wOf lv) (trL s') with
      | none =>
        have hl : loopS (f' + 1) lv acc q s' = some (finP lv acc q, trL s') := by rw [loopS_succ, hw]
        have HL := Lib.hid (HA.out.symm.trans hl)
        clear hl
        by_cases hone : acc.len = 1
        · have hfin : finP lv acc q = q := by unfold finP; rw [if_pos hone]
          have HFN := Lib.hid hfin
          have hoz : ((acc.len : Int) == 1) = true := by rw [beq1]; simp [hone]
          clear hfin hone
          go_wp2_with (first
            | (go_at_call 94; refine (word_any rb s' (wOf lv) _ (hRr.at_ hHM.at_ hrb) (by omega)).mono ?_; unfold WordPost; rw [hw]; rintro e w6 ⟨rfl, hm⟩; simp only [Option.isSome_none, Option.getD_none] at hm ⊢; obtain ⟨n6, hR, HM6, hz6⟩ := hRr.move hHM.at_ hrb HZ.out hm; have HW6 := Lib.hid hm)
            | (refine wpList_load_rws rfl _ _ (by rfl) (by assumption) _ rfl _ _ (by repeat (first | exact List.Mem.head _ | refine List.Mem.tail _ ?_)) _ Tryz.underlying24 rfl (by kernel_rfl) ?_)
            | (refine wQ_store rfl _ _ _ (by rfl) (by assumption) _ rfl #[.int .i64 q.k, .int .i64 q.o, .string q.n, .string q.t, .slice aq q.kids.len cq] (by rfl) _ _ _ (by repeat (first | exact Pick.here | apply Pick.there)) (by kernel_rfl) (by kernel_rfl) (by kernel_rfl) ?_; intro w7 hR hsm hsz))
          refine bodyPost_rws2 rfl (by assumption) g0 rfl _ _ (List.Mem.head _) _ Tryz.underlying24 rfl (by kernel_rfl) _ rfl rfl (fun hbz => ?_)
          rw [HL.out, HFN.out]
          refine ⟨⟨aq, cq, rfl, ?_⟩, HQS.out.1, HQS.out.2, by omega, (hHM.trans HM6).then (hz6.symm ▸ hbz)⟩
          exact HSQ.out.same (fun k hk _ => hk.1) (fun k hk hlt => (hsm k hk.2.1).trans (HW6.out.block k hlt (by have := hk.1; omega)))
        · have hfin : finP lv acc q = ⟨kOf lv, 0, e0, e0, acc⟩ := by unfold finP; rw [if_neg hone]
          have HFN := Lib.hid hfin
          have hoz : ((acc.len : Int) == 1) = false := by rw [beq1]; simp [hone]
          clear hfin hone
          go_wp2_with (first
            | (go_at_call 94; refine (word_any rb s' (wOf lv) _ (hRr.at_ hHM.at_ hrb) (by omega)).mono ?_; unfold WordPost; rw [hw]; rintro e w6 ⟨rfl, hm⟩; simp only [Option.isSome_none, Option.getD_none] at hm ⊢; obtain ⟨n6, hR, HM6, hz6⟩ := hRr.move hHM.at_ hrb HZ.out hm; have HW6 := Lib.hid hm)
            | (refine wQ_store rfl _ _ _ (by rfl) (by assumption) _ rfl #[.int .i64 (kOf lv), .int .i64 0, .string e0, .string e0, .slice (some ⟨gl, 0, none⟩) acc.len cap] (by rfl) _ _ _ (by repeat (first | exact Pick.here | apply Pick.there)) (by kernel_rfl) (by kernel_rfl) (by kernel_rfl) ?_; intro w7 hR hsm hsz))
          refine bodyPost_rws2 rfl (by assumption) g0 rfl _ _ (List.Mem.head _) _ Tryz.underlying24 rfl (by kernel_rfl) _ rfl rfl (fun hbz => ?_)
          rw [HL.out, HFN.out]
          have hsame : ∀ k, w.heap.size ≤ k ∧ k ≠ g0 → k < wr.heap.size → w7.heap[k]? = wr.heap[k]? := fun k hk hlt => (hsm k hk.2).trans (HW6.out.block k hlt (by have := hk.1; omega))
          obtain ⟨hxl, ⟨hv0, _⟩ | ⟨gv, capv, cur, hv, hgB, hgh, rest⟩⟩ := HO.out
          · cases hv0
          have hown7 : w7.ownsRow w.heap.size 24 5 (.slice (some ⟨gl, 0, none⟩) acc.len cap) acc.len xs := by
            refine ⟨hxl, .inr ⟨gv, capv, cur, hv, hgB, ?_, rest⟩⟩
            have hgv : gl = gv := by simp only [Value.slice.injEq, Option.some.injEq, Addr.mk.injEq, and_true, true_and] at hv; exact hv.1
            rw [hsame gv ⟨hgB, by rw [← hgv]; exact fun e => HNB.out.1 e.symm⟩ (Array.getElem?_eq_some_iff.1 hgh).1]
            exact hgh
          have hchk7 : Chk (fun k => w.heap.size ≤ k) w7 acc xs := HCK.out.same (fun k hk _ => hk.1) (fun k hk hlt => hsame k ⟨hk.1, hk.2.1⟩ hlt)
          obtain ⟨ad9, c9, hv9, hq9⟩ := hchk7.slq hown7 (fun g' c' he => by
            simp only [Value.slice.injEq, Option.some.injEq, Addr.mk.injEq, and_true, true_and] at he hv
            rw [← he.1, hv.1]; exact hgB)
          simp only [Value.slice.injEq, true_and] at hv9
          obtain ⟨rfl, rfl⟩ := hv9
          exact ⟨⟨_, _, rfl, hq9⟩, (show e0.size ≤ SB by decide), (show e0.size ≤ SB by decide), by omega, (hHM.trans HM6).then (hz6.symm ▸ hbz)⟩
      | some r2 =>
        have hwl := wordS_lt hw
        have hwo := wOf_len lv
        cases hr2 : parseS f' lv r2 with
        | none =>
          have hl : loopS (f' + 1) lv acc q s' = none := by rw [loopS_succ, hw]; simp only; rw [hr2]
          have HL := Lib.hid (HA.out.symm.trans hl)
          clear hl
          go_wp2_with (first
            | (go_at_call 94; refine (word_any rb s' (wOf lv) _ (hRr.at_ hHM.at_ hrb) (by omega)).mono ?_; unfold WordPost; rw [hw]; rintro e w6 ⟨rfl, hm⟩; simp only [Option.isSome_some, Option.getD_some] at hm ⊢; obtain ⟨n6, hR, HM6, hz6⟩ := hRr.move hHM.at_ hrb HZ.out hm; have HW6 := Lib.hid hm)
            | (go_at_fn g; refine (HP.out f' r2 _ (by omega) (hR.at_ HM6.at_ hrb) (by omega) (by omega)).mono ?_; rw [hr2]; rintro e w8 ⟨⟨k, o, n, t, ad, l, c, why, rfl⟩, u, hul, hm8⟩; obtain ⟨n8, hR, HM8, hz8⟩ := hR.move HM6.at_ hrb hz6 hm8)
            | (refine wpList_load_rws rfl _ _ (by rfl) (by assumption) _ rfl _ _ (by repeat (first | exact List.Mem.head _ | refine List.Mem.tail _ ?_)) _ Tryz.underlying24 rfl (by kernel_rfl) ?_)
            | (refine wQ_store rfl _ _ _ (by rfl) (by assumption) _ rfl #[.int .i64 k, .int .i64 o, .string n, .string t, .slice ad l c] (by rfl) _ _ _ (by repeat (first | exact Pick.here | apply Pick.there)) (by kernel_rfl) (by kernel_rfl) (by kernel_rfl) ?_; intro w7 hR hsm hsz))
          refine bodyPost_rws2 rfl (by assumption) g0 rfl _ _ (List.Mem.head _) _ Tryz.underlying24 rfl (by kernel_rfl) _ rfl rfl (fun hbz => ?_)
          rw [HL.out]
          exact ⟨⟨_, _, _, _, _, _, _, why, rfl⟩, u, hul, ((hHM.trans HM6).trans HM8).then (hz8.symm ▸ hbz)⟩
        | some p2 =>
          obtain ⟨p2, r3⟩ := p2
          have hl : loopS (f' + 1) lv acc q s' = loopS f' lv (acc.snoc p2) p2 r3 := by rw [loopS_succ, hw]; simp only; rw [hr2]
          have HL := Lib.hid (hl.symm.trans HA.out)
          have hle3 := parseS_le hr2
          clear hl
          go_upto_region 9 with (first
            | (go_at_call 94; refine (word_any rb s' (wOf lv) _ (hRr.at_ hHM.at_ hrb) (by omega)).mono ?_; unfold WordPost; rw [hw]; rintro e w6 ⟨rfl, hm⟩; simp only [Option.isSome_some, Option.getD_some] at hm ⊢; obtain ⟨n6, hR, HM6, hz6⟩ := hRr.move hHM.at_ hrb HZ.out hm; have HW6 := Lib.hid hm)
            | (go_at_fn g; refine (HP.out f' r2 _ (by omega) (hR.at_ HM6.at_ hrb) (by omega) (by omega)).mono ?_; rw [hr2]; rintro e w8 ⟨⟨a2, c2, rfl, hsl2⟩, hpn2, hpt2, hrl3, hm8⟩; obtain ⟨n8, hR, HM8, hz8⟩ := hR.move HM6.at_ hrb hz6 hm8; have HW8 := Lib.hid hm8)
            | (refine wQ_store rfl _ _ _ (by rfl) (by assumption) _ rfl #[.int .i64 p2.k, .int .i64 p2.o, .string p2.n, .string p2.t, .slice a2 p2.kids.len c2] (by rfl) _ _ _ (by repeat (first | exact Pick.here | apply Pick.there)) (by kernel_rfl) (by kernel_rfl) (by kernel_rfl) ?_; intro w7 hR hsm hsz))
          have hsz6 : wr.heap.size ≤ w6.heap.size := HW6.out.size
          have hsz8 : w6.heap.size ≤ w8.heap.size := HW8.out.size
          have hgll : gl < wr.heap.size := (HO.out.lt gl rfl).2
          have hglB : w.heap.size ≤ gl := (HO.out.lt gl rfl).1
          have hg0r : g0 < wr.heap.size := hRr.lt (List.Mem.tail _ (List.Mem.head _))
          have hg1r : g1 < wr.heap.size := hRr.lt (List.Mem.head _)
          have hwr7 : wr.heap.size ≤ w7.heap.size := by omega
          have hB7 : w.heap.size ≤ w7.heap.size := hR.len
          have hsame7 : ∀ k, w.heap.size ≤ k → k ≠ g1 → k < wr.heap.size → w7.heap[k]? = wr.heap[k]? := fun k hk hn hlt => ((hsm k hn).trans (HW8.out.block k (by omega) (by omega))).trans (HW6.out.block k hlt (by omega))
          have hown7 : w7.ownsRow w.heap.size 24 5 (.slice (some ⟨gl, 0, none⟩) acc.len cap) acc.len xs := by
            obtain ⟨hxl, ⟨hv0, _⟩ | ⟨gv, capv, cur, hv, hgB, hgh, rest⟩⟩ := HO.out
            · cases hv0
            · refine ⟨hxl, .inr ⟨gv, capv, cur, hv, hgB, ?_, rest⟩⟩
              have hgv : gl = gv := by simp only [Value.slice.injEq, Option.some.injEq, Addr.mk.injEq, and_true, true_and] at hv; exact hv.1
              rw [hsame7 gv hgB (by rw [← hgv]; exact fun e => HNB.out.2 e.symm) (Array.getElem?_eq_some_iff.1 hgh).1]
              exact hgh
          have hchk7 : Chk (fun k => (fun k => w.heap.size ≤ k ∧ k ≠ g0 ∧ k ≠ g1 ∧ k ≠ gl) k ∧ k < w7.heap.size) w7 acc xs := HCK.out.same (fun k hk hlt => ⟨hk, by omega⟩) (fun k hk hlt => hsame7 k hk.1 hk.2.2.1 hlt)
          have hsl7 : SlQ (fun k => (fun k => w.heap.size ≤ k ∧ k ≠ g0 ∧ k ≠ g1 ∧ k ≠ gl) k ∧ k < w7.heap.size) w7 p2.kids a2 c2 := hsl2.same (fun k hk hlt => ⟨⟨by omega, by omega, by omega, by omega⟩, by omega⟩) (fun k hk hlt => hsm k (by omega))
          have hlen5 := hchk7.len
          have hR7 := hR
          have HR7 := Lib.hid hR7
          clear hsm hsz hsl2 hsame7 hRr
          obtain ⟨i0, hi, hz0, hz1, hz2⟩ := info_parts info_pol
          go_wp2_with (first
            | (refine wpList_load_rws rfl _ _ (by rfl) (by assumption) _ rfl _ _ (by repeat (first | exact List.Mem.head _ | refine List.Mem.tail _ ?_)) _ Tryz.underlying24 rfl (by kernel_rfl) ?_)
            | (at_builtin; refine wpList_app2 rfl _ _ 22 rfl 24 i0 (.agg zP) 5 72 Tryz.underlying22 hi hz0 hz1 hz2 rfl w.heap.size gl acc.len cap xs rfl (hown7.alloc _) ⟨w7.heap.size, 0, none⟩ 1 (pcl p2 a2 c2) rfl rfl ?c1 ?c2 (by omega) (by omega) ?c3 ?_))
          case c1 =>
            intro j u hj
            exact hj
          case c2 => intro u hu; simp [pcl] at hu; rcases hu with rfl | rfl | rfl | rfl | rfl <;> rfl
          case c3 => omega
          intro g' cap' w10 hown10 hgr hg'
          have hA7 : (w7.alloc (.cells #[.int .i64 p2.k, .int .i64 p2.o, .string p2.n, .string p2.t, .slice a2 p2.kids.len c2] 24)).heap.size = w7.heap.size + 1 := by simp
          have hsame10 : ∀ k, k ≠ gl → k < w7.heap.size → w10.heap[k]? = w7.heap[k]? := fun k hn hk =>
            (hgr.block k (by omega) (fun e => hn (Option.some.inj e))).trans ((b_alloc w7 _).block k hk)
          have hR10 := (HR7.out.alloc0 (.cells #[.int .i64 p2.k, .int .i64 p2.o, .string p2.n, .string p2.t, .slice a2 p2.kids.len c2] 24)).grown hgr hglB (by
            intro x hx
            rcases List.mem_cons.1 hx with rfl | hx
            · exact HNB.out.2
            · rcases List.mem_cons.1 hx with rfl | hx
              · exact HNB.out.1
              · cases hx)
          have hown11 : w10.ownsRow w.heap.size 24 5 (.slice (some ⟨g', 0, none⟩) (acc.snoc p2).len cap') (acc.snoc p2).len (xs ++ pcl p2 a2 c2) := by rw [Fo.snoc_len]; exact hown10
          have hsl10 : SlQ (fun k => w.heap.size ≤ k ∧ k ≠ g0 ∧ k ≠ g1 ∧ k ≠ g') w10 p2.kids a2 c2 := hsl7.same (fun k hk hlt => ⟨hk.1.1, hk.1.2.1, hk.1.2.2.1, by rcases hg' with rfl | rfl; exact hk.1.2.2.2; omega⟩) (fun k hk hlt => hsame10 k hk.1.2.2.2 hlt)
          have hchk10 : Chk (fun k => w.heap.size ≤ k ∧ k ≠ g0 ∧ k ≠ g1 ∧ k ≠ g') w10 acc xs := hchk7.same (fun k hk hlt => ⟨hk.1.1, hk.1.2.1, hk.1.2.2.1, by rcases hg' with rfl | rfl; exact hk.1.2.2.2; omega⟩) (fun k hk hlt => hsame10 k hk.1.2.2.2 hlt)
          have hchk11 := Chk.snoc hpn2 hpt2 hsl10 hchk10
          have hnb : g0 ≠ g' ∧ g1 ≠ g' := by rcases hg' with rfl | rfl; exact HNB.out; exact ⟨by omega, by omega⟩
          have hsn := Fo.snoc_len acc p2
          have hone : (acc.snoc p2).len = 1 → acc.snoc p2 = .cons p2.k p2.o p2.n p2.t p2.kids .nil := fun h => by rw [hsn] at h; omega
          have HZZ : Hid (((4 * r3.length + lv + 1 ≤ f' ∧ f' ≤ F') ∧ (acc.snoc p2).len + r3.length ≤ 1025) ∧ 1 ≤ (acc.snoc p2).len) := Lib.hid ⟨⟨⟨by omega, by omega⟩, by omega⟩, by omega⟩
          have HALL : Hid (_ ∧ _ ∧ _ ∧ _ ∧ _ ∧ _) := Lib.hid ⟨hR10, hown11, hchk11, hnb, hone, hsl10⟩
          have HSN := Lib.hid hsn
          clear hR10 hown11 hchk11 hnb hone hsl10 hsn hown10 hgr hg' hsame10 hA7 hchk10 hown7 hchk7 hsl7 hR hR7
          go_wp2_with fail
          go_roundg f'
          case measure => omega
          case rel =>
            obtain ⟨⟨⟨z1, z2⟩, z3⟩, z4⟩ := HZZ.out
            obtain ⟨y1, y2, y3, y4, y5, y6⟩ := HALL.out
            exact ⟨f', acc.snoc p2, p2, r3, a2, c2, xs ++ pcl p2 a2 c2, n8, g', cap', rfl, by rw [HSN.out], HL.out, z1, z2, z3, z4, y1, (hHM.trans HM6).trans HM8, hz8, y2, y3, y4, y5, y6, hpn2, hpt2⟩
end Go.Proofs.YthpagppipifgeaaGreatDoor
