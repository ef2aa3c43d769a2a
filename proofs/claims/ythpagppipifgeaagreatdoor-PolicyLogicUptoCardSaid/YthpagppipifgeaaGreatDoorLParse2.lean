/- policy.Parse: the walk. -/
import Derived.Test.YthpagppipifgeaaGreatDoorLParse
namespace Go.Proofs.YthpagppipifgeaaGreatDoor
open Go.RowKit

def zPo : Po := ⟨0, 0, e0, e0, .nil⟩
/-- Parse's answer. -/
def ParseR (s : List UInt8) : Po × Int :=
  if 1024 < s.length then (zPo, 201) else match parseT s with
    | none => (zPo, 200)
    | some p => if smallP p.kids then (p, 0) else (zPo, 201)
def PRet (r : Po × Int) (w : World) : Ending → World → Prop := fun e w' =>
  (∃ ad c, e = .returned (.tuple #[pv r.1.k r.1.o r.1.n r.1.t ad r.1.kids.len c, .int .i64 r.2]) ∧ SlQ (fun k => w.heap.size ≤ k) w' r.1.kids ad c) ∧ r.1.n.size ≤ SB ∧ r.1.t.size ≤ SB ∧ Below w.heap.size w w'
theorem is_err {v : Value} (h : isErr v) (w : World) : Calls Tryz.prog 35 #[v, .iface 57 (.string noS)] w (RetB true w) := by
  rcases h with ⟨why, rfl⟩ | ⟨why, wh2, rfl⟩
  · exact is_reason why w
  · exact is_reason2 why wh2 w
theorem z_ret (x : Int) (w w' : World) (hb : Below w.heap.size w w') : PRet (zPo, x) w (.returned (.tuple #[.agg zP, .int .i64 x])) w' :=
  ⟨⟨none, 0, rfl, SlQ.nil _ _⟩, (show e0.size ≤ SB by decide), (show e0.size ≤ SB by decide), hb⟩

set_option maxRecDepth 100000 in
set_option maxHeartbeats 2000000 in
theorem Parse_any (s : ByteArray) (w : World) : Calls Tryz.prog 16 #[.string s] w (PRet (ParseR s.data.toList) w) := by
  have hlen : s.data.toList.length = s.size := by simp
  have hR := Rws.start w
  by_cases hl : 1024 < s.size
  · rw [show ParseR s.data.toList = (zPo, 201) by unfold ParseR; rw [if_pos (by omega)]]
    have hlz : (1024 : Int) < (s.size : Int) := by omega
    go_enter Tryz.func16, Tryz.ntmps16
    go_upto_region 1 with (refine wQ_alloc (cs := zP) rfl _ (by rfl) (by assumption) zero_pol ?_; intro g0 w1 hR hbg0 hg0)
    have hg0l : g0 < w1.heap.size := hR.lt (List.Mem.head _)
    go_wp2_with (refine wQ_store rfl _ _ _ (by rfl) (by assumption) _ rfl #[.int .i64 0, .int .i64 0, .string ⟨#[]⟩, .string ⟨#[]⟩, .slice none 0 0] (by rfl) _ _ _ (by repeat (first | exact Pick.here | apply Pick.there)) (by kernel_rfl) (by kernel_rfl) (by kernel_rfl) ?_; intro w2 hR hsm hsz)
    refine bodyPost_rws2 rfl (by assumption) g0 rfl _ _ (List.Mem.head _) _ Tryz.underlying24 rfl (by kernel_rfl) _ rfl rfl (fun hbz => ?_)
    exact z_ret 201 w _ hbz
  obtain ⟨l, hl2⟩ : ∃ l, l = s.data.toList := ⟨_, rfl⟩
  have hls : s = bs l := by rw [hl2, bs_of]
  have hl1 : l.length ≤ 1024 := by rw [hl2]; omega
  rw [← hl2]
  clear hlen hl2 hl
  subst hls
  have hlz : ¬ (1024 : Int) < ((bs l).size : Int) := by rw [bs_size]; omega
  have hlr : ParseR l = (match parseT l with
    | none => (zPo, 200)
    | some p => if smallP p.kids then (p, 0) else (zPo, 201)) := by unfold ParseR; rw [if_neg (by omega)]
  rw [hlr]
  clear hlr
  have HP : Hid (∀ w, Calls Tryz.prog 34 #[.string (bs l)] w (PTo (parseT l) w)) := Lib.hid fun w => parse_any l w hl1
  cases hr : parseT l with
  | none =>
    rw [hr] at HP
    go_enter Tryz.func16, Tryz.ntmps16
    go_upto_region 1 with (refine wQ_alloc (cs := zP) rfl _ (by rfl) (by assumption) zero_pol ?_; intro g0 w1 hR hbg0 hg0)
    have hg0l : g0 < w1.heap.size := hR.lt (List.Mem.head _)
    go_wp2_with (first
      | (go_at_call 34; refine (HP.out _).mono ?_; rintro e w2 ⟨⟨ev, rfl, hev⟩, hb2⟩; have hR := hR.call hb2)
      | (refine wQ_alloc (cs := zP) rfl _ (by rfl) (by assumption) zero_pol ?_; intro g1 w3 hR hbg1 hg1)
      | (go_at_call 35; refine (is_err hev _).mono ?_; rintro e w5 ⟨rfl, hb5⟩; have hR := hR.call hb5)
      | (refine wQ_store rfl _ _ _ (by rfl) (by assumption) _ rfl #[.int .i64 0, .int .i64 0, .string ⟨#[]⟩, .string ⟨#[]⟩, .slice none 0 0] (by rfl) _ _ _ (by repeat (first | exact Pick.here | apply Pick.there)) (by kernel_rfl) (by kernel_rfl) (by kernel_rfl) ?_; intro w4 hR hsm hsz))
    refine bodyPost_rws2 rfl (by assumption) g0 rfl _ _ (List.Mem.head _) _ Tryz.underlying24 rfl (by kernel_rfl) _ rfl rfl (fun hbz => ?_)
    exact z_ret 200 w _ hbz
  | some p =>
    rw [hr] at HP
    cases hsm0 : smallP p.kids with
    | true =>
      simp only [hsm0, if_true]
      go_enter Tryz.func16, Tryz.ntmps16
      go_upto_region 1 with (refine wQ_alloc (cs := zP) rfl _ (by rfl) (by assumption) zero_pol ?_; intro g0 w1 hR hbg0 hg0)
      have hg0l : g0 < w1.heap.size := hR.lt (List.Mem.head _)
      go_upto_region 4 with (first
        | (go_at_call 34; refine (HP.out _).mono ?_; rintro e w2 ⟨⟨ap, cp, rfl, hsl⟩, hpn, hpt, hb2⟩; have hR := hR.call hb2)
        | (refine wQ_alloc (cs := zP) rfl _ (by rfl) (by assumption) zero_pol ?_; intro g1 w3 hR hbg1 hg1) | (refine wQ_store rfl _ _ _ (by rfl) (by assumption) _ rfl #[.int .i64 p.k, .int .i64 p.o, .string p.n, .string p.t, .slice ap p.kids.len cp] (by rfl) _ _ _ (by repeat (first | exact Pick.here | apply Pick.there)) (by kernel_rfl) (by kernel_rfl) (by kernel_rfl) ?_; intro w4 hR hsm hsz))
      have hsl4 : SlQ (fun k => (w.heap.size ≤ k ∧ k ≠ g0) ∧ k < w4.heap.size) w4 p.kids ap cp := hsl.same (fun k hk hlt => ⟨⟨by have := hbg0.size; omega, by omega⟩, by have := hbg1.size; omega⟩) (fun k hk hlt => (hsm k (by omega)).trans (hbg1.block k hlt))
      have HS : Hid (∀ w5, Below w4.heap.size w4 w5 → Calls Tryz.prog 28 #[pv p.k p.o p.n p.t ap p.kids.len cp] w5 (RetB true w5)) := Lib.hid fun w5 hb => by
        rw [← hsm0]
        exact small_any p.kids p.k p.o p.n p.t ap cp w5 ((hsl4.slf).grown hb)
      have HK := Lib.hid hsl4
      clear hsl hsl4 hsm hsz hbg1 hsm0
      go_wp2_with (first
        | (go_at_call 35; refine (is_nil _).mono ?_; rintro e w5 ⟨rfl, rfl⟩)
        | (go_at_call 28; refine (HS.out _ (Below.refl _ _)).mono ?_; rintro e w6 ⟨rfl, hb6⟩; have hR := hR.call hb6)
        | (refine wpList_load_rws rfl _ _ (by rfl) (by assumption) _ rfl _ _ (by repeat (first | exact List.Mem.head _ | refine List.Mem.tail _ ?_)) _ Tryz.underlying24 rfl (by kernel_rfl) ?_) | (refine wQ_store rfl _ _ _ (by rfl) (by assumption) _ rfl #[.int .i64 p.k, .int .i64 p.o, .string p.n, .string p.t, .slice ap p.kids.len cp] (by rfl) _ _ _ (by repeat (first | exact Pick.here | apply Pick.there)) (by kernel_rfl) (by kernel_rfl) (by kernel_rfl) ?_; intro w7 hR hsm hsz))
      refine bodyPost_rws2 rfl (by assumption) g0 rfl _ _ (List.Mem.head _) _ Tryz.underlying24 rfl (by kernel_rfl) _ rfl rfl (fun hbz => ?_)
      exact ⟨⟨ap, cp, rfl, HK.out.same (fun k hk _ => hk.1.1) (fun k hk hlt => (hsm k hk.1.2).trans (hb6.block k hlt))⟩, hpn, hpt, hbz⟩
    | false =>
      simp only [hsm0, Bool.false_eq_true, if_false]
      go_enter Tryz.func16, Tryz.ntmps16
      go_upto_region 1 with (refine wQ_alloc (cs := zP) rfl _ (by rfl) (by assumption) zero_pol ?_; intro g0 w1 hR hbg0 hg0)
      have hg0l : g0 < w1.heap.size := hR.lt (List.Mem.head _)
      go_upto_region 4 with (first
        | (go_at_call 34; refine (HP.out _).mono ?_; rintro e w2 ⟨⟨ap, cp, rfl, hsl⟩, hpn, hpt, hb2⟩; have hR := hR.call hb2)
        | (refine wQ_alloc (cs := zP) rfl _ (by rfl) (by assumption) zero_pol ?_; intro g1 w3 hR hbg1 hg1) | (refine wQ_store rfl _ _ _ (by rfl) (by assumption) _ rfl #[.int .i64 p.k, .int .i64 p.o, .string p.n, .string p.t, .slice ap p.kids.len cp] (by rfl) _ _ _ (by repeat (first | exact Pick.here | apply Pick.there)) (by kernel_rfl) (by kernel_rfl) (by kernel_rfl) ?_; intro w4 hR hsm hsz))
      have hsl4 : SlQ (fun k => (w.heap.size ≤ k ∧ k ≠ g0) ∧ k < w4.heap.size) w4 p.kids ap cp := hsl.same (fun k hk hlt => ⟨⟨by have := hbg0.size; omega, by omega⟩, by have := hbg1.size; omega⟩) (fun k hk hlt => (hsm k (by omega)).trans (hbg1.block k hlt))
      have HS : Hid (∀ w5, Below w4.heap.size w4 w5 → Calls Tryz.prog 28 #[pv p.k p.o p.n p.t ap p.kids.len cp] w5 (RetB false w5)) := Lib.hid fun w5 hb => by
        rw [← hsm0]
        exact small_any p.kids p.k p.o p.n p.t ap cp w5 ((hsl4.slf).grown hb)
      clear hsl hsl4 hsm hsz hbg1 hsm0
      go_wp2_with (first
        | (go_at_call 35; refine (is_nil _).mono ?_; rintro e w5 ⟨rfl, rfl⟩)
        | (go_at_call 28; refine (HS.out _ (Below.refl _ _)).mono ?_; rintro e w6 ⟨rfl, hb6⟩; have hR := hR.call hb6)
        | (refine wpList_load_rws rfl _ _ (by rfl) (by assumption) _ rfl _ _ (by repeat (first | exact List.Mem.head _ | refine List.Mem.tail _ ?_)) _ Tryz.underlying24 rfl (by kernel_rfl) ?_) | (refine wQ_store rfl _ _ _ (by rfl) (by assumption) _ rfl #[.int .i64 0, .int .i64 0, .string ⟨#[]⟩, .string ⟨#[]⟩, .slice none 0 0] (by rfl) _ _ _ (by repeat (first | exact Pick.here | apply Pick.there)) (by kernel_rfl) (by kernel_rfl) (by kernel_rfl) ?_; intro w7 hR hsm hsz))
      refine bodyPost_rws2 rfl (by assumption) g0 rfl _ _ (List.Mem.head _) _ Tryz.underlying24 rfl (by kernel_rfl) _ rfl rfl (fun hbz => ?_)
      exact z_ret 201 w _ hbz
end Go.Proofs.YthpagppipifgeaaGreatDoor
