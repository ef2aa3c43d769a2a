/- LParse LParse2, in one text. -/
import Derived.Test.YthpagppipifgeaaGreatDoorZLOne
import Derived.Test.YthpagppipifgeaaGreatDoorZLIs
import Derived.Test.YthpagppipifgeaaGreatDoorZLX
/- reader.either, both; parse, Parse: the walks. -/
namespace Go.Proofs.YthpagppipifgeaaGreatDoor
open Go.RowKit

def BothAt (rb F : Nat) : Prop := ∀ s w, At rb s w → s.length ≤ 1024 → 4 * s.length + 2 ≤ F → Calls Tryz.prog 78 #[.pointer (some ⟨rb, 0, none⟩)] w (PQ rb (parseS F 1 s) w)

set_option maxRecDepth 100000 in
set_option maxHeartbeats 2000000 in
theorem both_any (rb F : Nat) (h : ∀ f, f < F → OneAt rb f) : BothAt rb F := by
  intro s w ha hs hF
  have hrb := ha.lt
  have HL : Hid (∀ w1, At rb s w1 → Calls Tryz.prog 77 #[.pointer (some ⟨rb, 0, none⟩), .int .i64 (kOf 0), .string (bs (wOf 0)), .func (.func 95) #[.pointer (some ⟨rb, 0, none⟩)] #[]] w1 (PQ rb (parseS F 1 s) w1)) := Lib.hid fun w1 ha1 =>
    list_any F 0 (by omega) 95 (enters_of Tryz.func95 (by kernel_rfl) rfl) rb (fun f s w hf ha hs hm => h f hf s w ha hs (by omega)) s w1 ha1 hs (by omega)
  clear h
  have hR := Rws.start w
  cases hr : parseS F 1 s with
  | none =>
    go_enter Tryz.func78, Tryz.ntmps78
    go_wp2_with (first
      | (refine wQ_alloc (cs := zP) rfl _ (by rfl) (by assumption) zero_pol ?_; intro g0 w1 hR hbg0 hg0)
      | (go_at_call 77; refine (HL.out _ (hR.at_ ha hrb)).mono ?_; rw [hr]; rintro e w2 ⟨⟨k, o, n, t, ad, l, c, why, rfl⟩, uu, huu, hm2⟩; obtain ⟨n2, hR, HM2, hz2⟩ := hR.move ha hrb rfl hm2)
      | (refine wQ_store rfl _ _ _ (by rfl) (by assumption) _ rfl #[.int .i64 k, .int .i64 o, .string n, .string t, .slice ad l c] (by rfl) _ _ _ (by repeat (first | exact Pick.here | apply Pick.there)) (by kernel_rfl) (by kernel_rfl) (by kernel_rfl) ?_; intro w3 hR hsm hsz))
    refine bodyPost_rws2 rfl (by assumption) g0 rfl _ _ (List.Mem.head _) _ Tryz.underlying24 rfl (by kernel_rfl) _ rfl rfl (fun hbz => ?_)
    exact ⟨⟨_, _, _, _, _, _, _, why, rfl⟩, uu, huu, HM2.then (hz2.symm ▸ hbz)⟩
  | some p =>
    obtain ⟨p, r⟩ := p
    go_enter Tryz.func78, Tryz.ntmps78
    go_upto_region 1 with (refine wQ_alloc (cs := zP) rfl _ (by rfl) (by assumption) zero_pol ?_; intro g0 w1 hR hbg0 hg0)
    have hg0l : g0 < w1.heap.size := hR.lt (List.Mem.head _)
    go_wp2_with (first
      | (go_at_call 77; refine (HL.out _ (hR.at_ ha hrb)).mono ?_; rw [hr]; rintro e w2 ⟨⟨ap, cp, rfl, hsl⟩, hpn, hpt, hrl, hm2⟩; obtain ⟨n2, hR, HM2, hz2⟩ := hR.move ha hrb rfl hm2)
      | (refine wQ_store rfl _ _ _ (by rfl) (by assumption) _ rfl #[.int .i64 p.k, .int .i64 p.o, .string p.n, .string p.t, .slice ap p.kids.len cp] (by rfl) _ _ _ (by repeat (first | exact Pick.here | apply Pick.there)) (by kernel_rfl) (by kernel_rfl) (by kernel_rfl) ?_; intro w3 hR hsm hsz))
    refine bodyPost_rws2 rfl (by assumption) g0 rfl _ _ (List.Mem.head _) _ Tryz.underlying24 rfl (by kernel_rfl) _ rfl rfl (fun hbz => ?_)
    exact ⟨⟨ap, cp, rfl, hsl.same (fun k hk _ => by have := hbg0.size; omega) (fun k hk hlt => hsm k (by omega))⟩, hpn, hpt, hrl, HM2.then (hz2.symm ▸ hbz)⟩

set_option maxRecDepth 100000 in
set_option maxHeartbeats 2000000 in
theorem either_any (rb F : Nat) (h : ∀ f, f < F → BothAt rb f) : EitherAt rb F := by
  intro s w ha hs hF
  have hrb := ha.lt
  have HL : Hid (∀ w1, At rb s w1 → Calls Tryz.prog 77 #[.pointer (some ⟨rb, 0, none⟩), .int .i64 (kOf 1), .string (bs (wOf 1)), .func (.func 78) #[.pointer (some ⟨rb, 0, none⟩)] #[]] w1 (PQ rb (parseS F 2 s) w1)) := Lib.hid fun w1 ha1 =>
    list_any F 1 (by omega) 78 (enters_of Tryz.func78 (by kernel_rfl) rfl) rb (fun f s w hf ha hs hm => h f hf s w ha hs (by omega)) s w1 ha1 hs (by omega)
  clear h
  have hR := Rws.start w
  cases hr : parseS F 2 s with
  | none =>
    go_enter Tryz.func58, Tryz.ntmps58
    go_wp2_with (first
      | (refine wQ_alloc (cs := zP) rfl _ (by rfl) (by assumption) zero_pol ?_; intro g0 w1 hR hbg0 hg0)
      | (go_at_call 77; refine (HL.out _ (hR.at_ ha hrb)).mono ?_; rw [hr]; rintro e w2 ⟨⟨k, o, n, t, ad, l, c, why, rfl⟩, uu, huu, hm2⟩; obtain ⟨n2, hR, HM2, hz2⟩ := hR.move ha hrb rfl hm2)
      | (refine wQ_store rfl _ _ _ (by rfl) (by assumption) _ rfl #[.int .i64 k, .int .i64 o, .string n, .string t, .slice ad l c] (by rfl) _ _ _ (by repeat (first | exact Pick.here | apply Pick.there)) (by kernel_rfl) (by kernel_rfl) (by kernel_rfl) ?_; intro w3 hR hsm hsz))
    refine bodyPost_rws2 rfl (by assumption) g0 rfl _ _ (List.Mem.head _) _ Tryz.underlying24 rfl (by kernel_rfl) _ rfl rfl (fun hbz => ?_)
    exact ⟨⟨_, _, _, _, _, _, _, why, rfl⟩, uu, huu, HM2.then (hz2.symm ▸ hbz)⟩
  | some p =>
    obtain ⟨p, r⟩ := p
    go_enter Tryz.func58, Tryz.ntmps58
    go_upto_region 1 with (refine wQ_alloc (cs := zP) rfl _ (by rfl) (by assumption) zero_pol ?_; intro g0 w1 hR hbg0 hg0)
    have hg0l : g0 < w1.heap.size := hR.lt (List.Mem.head _)
    go_wp2_with (first
      | (go_at_call 77; refine (HL.out _ (hR.at_ ha hrb)).mono ?_; rw [hr]; rintro e w2 ⟨⟨ap, cp, rfl, hsl⟩, hpn, hpt, hrl, hm2⟩; obtain ⟨n2, hR, HM2, hz2⟩ := hR.move ha hrb rfl hm2)
      | (refine wQ_store rfl _ _ _ (by rfl) (by assumption) _ rfl #[.int .i64 p.k, .int .i64 p.o, .string p.n, .string p.t, .slice ap p.kids.len cp] (by rfl) _ _ _ (by repeat (first | exact Pick.here | apply Pick.there)) (by kernel_rfl) (by kernel_rfl) (by kernel_rfl) ?_; intro w3 hR hsm hsz))
    refine bodyPost_rws2 rfl (by assumption) g0 rfl _ _ (List.Mem.head _) _ Tryz.underlying24 rfl (by kernel_rfl) _ rfl rfl (fun hbz => ?_)
    exact ⟨⟨ap, cp, rfl, hsl.same (fun k hk _ => by have := hbg0.size; omega) (fun k hk hlt => hsm k (by omega))⟩, hpn, hpt, hrl, HM2.then (hz2.symm ▸ hbz)⟩

theorem all_at (rb : Nat) (F : Nat) : OneAt rb F ∧ BothAt rb F ∧ EitherAt rb F := by
  induction F using Nat.strongRecOn with
  | _ F ih =>
    refine ⟨?_, both_any rb F fun f hf => (ih f hf).1, either_any rb F fun f hf => (ih f hf).2.1⟩
    cases F with
    | zero => intro s w _ _ h; omega
    | succ F => exact one_any rb F (ih F (by omega)).1 (ih F (by omega)).2.2

/-- parse's answer. -/
def parseT (s : List UInt8) : Option Po :=
  match parseS (4 * s.length + 3) 2 s with
  | none => none
  | some (p, r) => if (peekS (trL r)).2 = 0 then some p else none
theorem bs_of (s : ByteArray) : bs s.data.toList = s := by cases s; simp [bs]
/-- An error that is a wrapped one, once or twice. -/
def isErr (v : Value) : Prop := (∃ why, v = wrapV why) ∨ ∃ why wh2, v = .iface 80 (.agg #[.string why, wrapV wh2])
def PTo (o : Option Po) (w : World) : Ending → World → Prop := fun e w' =>
  match o with
  | some p => (∃ ad c, e = .returned (.tuple #[pv p.k p.o p.n p.t ad p.kids.len c, .nilIface]) ∧ SlQ (fun k => w.heap.size ≤ k) w' p.kids ad c) ∧ p.n.size ≤ SB ∧ p.t.size ≤ SB ∧ Below w.heap.size w w'
  | none => (∃ ev, e = .returned (.tuple #[.agg zP, ev]) ∧ isErr ev) ∧ Below w.heap.size w w'
theorem Rws.mvo {B rb : Nat} {s : List UInt8} {w0 w w' : World} {L : List (Nat × Array Value × TypeId)} (h : Rws B w0 w L) (hm : Mv rb s w w') (hB : B ≤ rb) (hne : ∀ x, x ∈ L → x.1 ≠ rb) : Rws B w0 w' L := by
  refine ⟨⟨hm.os.trans h.below.os, hm.tape.trans h.below.tape, hm.output.trans h.below.output, Nat.le_trans h.below.size hm.size, fun k hk => ?_⟩, Nat.le_trans h.len hm.size, fun x hx => ⟨(h.row x hx).1, (hm.block _ (h.lt hx) (hne x hx)).trans (h.row x hx).2⟩, h.nd⟩
  exact (hm.block k (Nat.lt_of_lt_of_le hk h.len) (by omega)).trans (h.below.block k hk)
theorem ne1 {g rb : Nat} {c : Array Value} {t : TypeId} (h : g ≠ rb) : ∀ x, x ∈ [(g, c, t)] → x.1 ≠ rb := by
  intro x hx
  rcases List.mem_cons.1 hx with rfl | hx
  · exact h
  · cases hx
theorem ne2 {g g' rb : Nat} {c c' : Array Value} {t t' : TypeId} (h : g ≠ rb) (h' : g' ≠ rb) : ∀ x, x ∈ [(g, c, t), (g', c', t')] → x.1 ≠ rb := by
  intro x hx
  rcases List.mem_cons.1 hx with rfl | hx
  · exact h
  · exact ne1 h' x hx

set_option maxRecDepth 100000 in
set_option maxHeartbeats 2000000 in
theorem parse_any (s : List UInt8) (w : World) (hs : s.length ≤ 1024) : Calls Tryz.prog 34 #[.string (bs s)] w (PTo (parseT s) w) := by
  have hne := err_neq
  have hnn := nil_neq
  have hng := nil_guard
  have heg := err_guard
  have HE : Hid (∀ rb w1, At rb s w1 → Calls Tryz.prog 58 #[.pointer (some ⟨rb, 0, none⟩)] w1 (PQ rb (parseS (4 * s.length + 3) 2 s) w1)) := Lib.hid fun rb w1 ha => (all_at rb (4 * s.length + 3)).2.2 s w1 ha hs (by omega)
  unfold parseT
  have hR := Rws.start w
  cases hr : parseS (4 * s.length + 3) 2 s with
  | none =>
    simp only
    simp only [wrapV] at hne heg
    go_enter Tryz.func34, Tryz.ntmps34
    go_upto_region 1 with (refine wQ_alloc (cs := zP) rfl _ (by rfl) (by assumption) zero_pol ?_; intro g0 w1 hR hbg0 hg0)
    have hg0l : g0 < w1.heap.size := hR.lt (List.Mem.head _)
    go_upto_region 2 with fail
    have hat : At w1.heap.size s (w1.alloc (.cells #[.string (bs s)] 77)) := heap_alloc_new _ _
    have hR2 := hR.alloc0 (.cells #[.string (bs s)] 77)
    have hw1B : w.heap.size ≤ w1.heap.size := hbg0.size
    have hne0 : g0 ≠ w1.heap.size := by omega
    go_wp2_with (first
      | (go_at_call 58; refine (HE.out _ _ hat).mono ?_; rw [hr]; rintro e w3 ⟨⟨k, o, n, t, ad, l, c, why, rfl⟩, uu, huu, hm3⟩; simp only [wrapV]; have hR := hR2.mvo hm3 hw1B (ne1 hne0))
      | (refine wQ_alloc (cs := zP) rfl _ (by rfl) (by assumption) zero_pol ?_; intro g1 w4 hR hbg1 hg1) | (refine wQ_store rfl _ _ _ (by rfl) (by assumption) _ rfl #[.int .i64 k, .int .i64 o, .string n, .string t, .slice ad l c] (by rfl) _ _ _ (by repeat (first | exact Pick.here | apply Pick.there)) (by kernel_rfl) (by kernel_rfl) (by kernel_rfl) ?_; intro w5 hR hsm hsz) | (refine wQ_store rfl _ _ _ (by rfl) (by assumption) _ rfl #[.int .i64 0, .int .i64 0, .string ⟨#[]⟩, .string ⟨#[]⟩, .slice none 0 0] (by rfl) _ _ _ (by repeat (first | exact Pick.here | apply Pick.there)) (by kernel_rfl) (by kernel_rfl) (by kernel_rfl) ?_; intro w6 hR hsm6 hsz6))
    refine bodyPost_rws2 rfl (by assumption) g0 rfl _ _ (List.Mem.head _) _ Tryz.underlying24 rfl (by kernel_rfl) _ rfl rfl (fun hbz => ?_)
    exact ⟨⟨_, rfl, .inr ⟨_, why, rfl⟩⟩, hbz⟩
  | some p =>
    obtain ⟨p, r⟩ := p
    simp only
    have hrl0 := parseS_le hr
    have HPR : Hid (∀ rb w, At rb r w → Calls Tryz.prog 59 #[.pointer (some ⟨rb, 0, none⟩)] w fun e w' => e = .returned (.tuple #[.string (bs (peekS (trL r)).1), .int .u8 ((peekS (trL r)).2 : Nat)]) ∧ Mv rb (trL r) w w') := Lib.hid fun rb w ha => peek_any rb r w ha (by omega)
    generalize (peekS (trL r)).2 = kd at *
    generalize (peekS (trL r)).1 = tok at *
    generalize trL r = v at *
    by_cases hk : kd = 0
    · subst hk
      rw [if_pos rfl]
      go_enter Tryz.func34, Tryz.ntmps34
      go_upto_region 1 with (refine wQ_alloc (cs := zP) rfl _ (by rfl) (by assumption) zero_pol ?_; intro g0 w1 hR hbg0 hg0)
      have hg0l : g0 < w1.heap.size := hR.lt (List.Mem.head _)
      go_upto_region 2 with fail
      have hat : At w1.heap.size s (w1.alloc (.cells #[.string (bs s)] 77)) := heap_alloc_new _ _
      have hR2 := hR.alloc0 (.cells #[.string (bs s)] 77)
      have hw1B : w.heap.size ≤ w1.heap.size := hbg0.size
      have hne0 : g0 ≠ w1.heap.size := by omega
      go_upto_region 3 with (first
        | (go_at_call 58; refine (HE.out _ _ hat).mono ?_; rw [hr]; rintro e w3 ⟨⟨ap, cp, rfl, hsl⟩, hpn, hpt, hrl, hm3⟩; have hR := hR2.mvo hm3 hw1B (ne1 hne0))
        | (refine wQ_alloc (cs := zP) rfl _ (by rfl) (by assumption) zero_pol ?_; intro g1 w4 hR hbg1 hg1) | (refine wQ_store rfl _ _ _ (by rfl) (by assumption) _ rfl #[.int .i64 p.k, .int .i64 p.o, .string p.n, .string p.t, .slice ap p.kids.len cp] (by rfl) _ _ _ (by repeat (first | exact Pick.here | apply Pick.there)) (by kernel_rfl) (by kernel_rfl) (by kernel_rfl) ?_; intro w5 hR hsm hsz))
      have hz2 : (w1.alloc (.cells #[.string (bs s)] 77)).heap.size = w1.heap.size + 1 := by simp
      have hat5 : At w1.heap.size r w5 := by
        have h1 := hm3.at_.lt
        have h2 : At w1.heap.size r w4 := hm3.at_.below hbg1
        exact (hsm _ (by omega)).trans h2
      have hsl5 : SlQ (fun k => (w.heap.size ≤ k ∧ k ≠ g0) ∧ k ≠ g1 ∧ k ≠ w1.heap.size) w5 p.kids ap cp := hsl.same (fun k hk hlt => ⟨⟨by omega, by omega⟩, by omega, by omega⟩) (fun k hk hlt => (hsm k (by omega)).trans (hbg1.block k hlt))
      have hne1 : g1 ≠ w1.heap.size := by have := hm3.size; omega
      have HK := Lib.hid hsl5
      clear hsl hsl5 hsm hsz hbg1 hm3 hz2
      go_wp2_with (first
        | (go_at_call 59; refine (HPR.out _ _ hat5).mono ?_; rintro e w6 ⟨rfl, hm6⟩; have hR := hR.mvo hm6 hw1B (ne2 hne1 hne0))
        | (refine wpList_load_rws rfl _ _ (by rfl) (by assumption) _ rfl _ _ (by repeat (first | exact List.Mem.head _ | refine List.Mem.tail _ ?_)) _ Tryz.underlying24 rfl (by kernel_rfl) ?_) | (refine wQ_store rfl _ _ _ (by rfl) (by assumption) _ rfl #[.int .i64 p.k, .int .i64 p.o, .string p.n, .string p.t, .slice ap p.kids.len cp] (by rfl) _ _ _ (by repeat (first | exact Pick.here | apply Pick.there)) (by kernel_rfl) (by kernel_rfl) (by kernel_rfl) ?_; intro w7 hR hsm hsz))
      refine bodyPost_rws2 rfl (by assumption) g0 rfl _ _ (List.Mem.head _) _ Tryz.underlying24 rfl (by kernel_rfl) _ rfl rfl (fun hbz => ?_)
      exact ⟨⟨ap, cp, rfl, HK.out.same (fun k hk _ => hk.1.1) (fun k hk hlt => (hsm k hk.1.2).trans (hm6.block k hlt hk.2.2))⟩, hpn, hpt, hbz⟩
    · rw [if_neg hk]
      have hkz : ((kd : Int) == 0) = false := by simp; omega
      have hkn : ¬ (kd : Int) = 0 := by omega
      clear hk
      go_enter Tryz.func34, Tryz.ntmps34
      go_upto_region 1 with (refine wQ_alloc (cs := zP) rfl _ (by rfl) (by assumption) zero_pol ?_; intro g0 w1 hR hbg0 hg0)
      have hg0l : g0 < w1.heap.size := hR.lt (List.Mem.head _)
      go_upto_region 2 with fail
      have hat : At w1.heap.size s (w1.alloc (.cells #[.string (bs s)] 77)) := heap_alloc_new _ _
      have hR2 := hR.alloc0 (.cells #[.string (bs s)] 77)
      have hw1B : w.heap.size ≤ w1.heap.size := hbg0.size
      have hne0 : g0 ≠ w1.heap.size := by omega
      go_upto_region 3 with (first
        | (go_at_call 58; refine (HE.out _ _ hat).mono ?_; rw [hr]; rintro e w3 ⟨⟨ap, cp, rfl, hsl⟩, hpn, hpt, hrl, hm3⟩; have hR := hR2.mvo hm3 hw1B (ne1 hne0))
        | (refine wQ_alloc (cs := zP) rfl _ (by rfl) (by assumption) zero_pol ?_; intro g1 w4 hR hbg1 hg1) | (refine wQ_store rfl _ _ _ (by rfl) (by assumption) _ rfl #[.int .i64 p.k, .int .i64 p.o, .string p.n, .string p.t, .slice ap p.kids.len cp] (by rfl) _ _ _ (by repeat (first | exact Pick.here | apply Pick.there)) (by kernel_rfl) (by kernel_rfl) (by kernel_rfl) ?_; intro w5 hR hsm hsz))
      have hat5 : At w1.heap.size r w5 := by
        have h1 := hm3.at_.lt
        have h2 : At w1.heap.size r w4 := hm3.at_.below hbg1
        exact (hsm _ (by omega)).trans h2
      have hne1 : g1 ≠ w1.heap.size := by have := hm3.at_.lt; omega
      clear hsl hsm hsz hbg1 hm3
      go_wp2_with (first
        | (go_at_call 59; refine (HPR.out _ _ hat5).mono ?_; rintro e w6 ⟨rfl, hm6⟩; have hR := hR.mvo hm6 hw1B (ne2 hne1 hne0))
        | (go_at_call 60; refine (wanted_any _ _ (by decide)).mono ?_; rintro e w8 ⟨⟨why, rfl⟩, rfl⟩)
        | (refine wpList_load_rws rfl _ _ (by rfl) (by assumption) _ rfl _ _ (by repeat (first | exact List.Mem.head _ | refine List.Mem.tail _ ?_)) _ Tryz.underlying24 rfl (by kernel_rfl) ?_) | (refine wQ_store rfl _ _ _ (by rfl) (by assumption) _ rfl #[.int .i64 0, .int .i64 0, .string ⟨#[]⟩, .string ⟨#[]⟩, .slice none 0 0] (by rfl) _ _ _ (by repeat (first | exact Pick.here | apply Pick.there)) (by kernel_rfl) (by kernel_rfl) (by kernel_rfl) ?_; intro w7 hR hsm hsz))
      refine bodyPost_rws2 rfl (by assumption) g0 rfl _ _ (List.Mem.head _) _ Tryz.underlying24 rfl (by kernel_rfl) _ rfl rfl (fun hbz => ?_)
      exact ⟨⟨_, rfl, .inl ⟨why, rfl⟩⟩, hbz⟩
end Go.Proofs.YthpagppipifgeaaGreatDoor
/- policy.Parse: the walk. -/
namespace Go.Proofs.YthpagppipifgeaaGreatDoor
open Go.RowKit

def zPo : Po := ⟨0, 0, e0, e0, .nil⟩
/-- Parse's answer. -/
def ParseR (s : List UInt8) : Po × Int :=
  if 1024 < s.length then (zPo, 201) else match parseT s with
    | none => (zPo, 200)
    | some p => if smallP p.kids then (p, 0) else (zPo, 201)
def PRet (r : Po × Int) (w : World) : Ending → World → Prop := fun e w' =>
  (∃ ad c, e = .returned (.tuple #[pv r.1.k r.1.o r.1.n r.1.t ad r.1.kids.len c, .int .i64 r.2]) ∧ SlQ (fun k => w.heap.size ≤ k) w' r.1.kids ad c) ∧ r.1.n.size ≤ SB ∧ r.1.t.size ≤ SB ∧ Below w.heap.size w w'
theorem is_err {v : Value} (h : isErr v) (w : World) : Calls Tryz.prog 35 #[v, .iface 57 (.string noS)] w (RetB true w) := by
  rcases h with ⟨why, rfl⟩ | ⟨why, wh2, rfl⟩
  · exact is_reason why w
  · exact is_reason2 why wh2 w
theorem z_ret (x : Int) (w w' : World) (hb : Below w.heap.size w w') : PRet (zPo, x) w (.returned (.tuple #[.agg zP, .int .i64 x])) w' :=
  ⟨⟨none, 0, rfl, SlQ.nil _ _⟩, (show e0.size ≤ SB by decide), (show e0.size ≤ SB by decide), hb⟩

set_option maxRecDepth 100000 in
set_option maxHeartbeats 2000000 in
theorem Parse_any (s : ByteArray) (w : World) : Calls Tryz.prog 16 #[.string s] w (PRet (ParseR s.data.toList) w) := by
  have hlen : s.data.toList.length = s.size := by simp
  have hR := Rws.start w
  by_cases hl : 1024 < s.size
  · rw [show ParseR s.data.toList = (zPo, 201) by unfold ParseR; rw [if_pos (by omega)]]
    have hlz : (1024 : Int) < (s.size : Int) := by omega
    go_enter Tryz.func16, Tryz.ntmps16
    go_upto_region 1 with (refine wQ_alloc (cs := zP) rfl _ (by rfl) (by assumption) zero_pol ?_; intro g0 w1 hR hbg0 hg0)
    have hg0l : g0 < w1.heap.size := hR.lt (List.Mem.head _)
    go_wp2_with (refine wQ_store rfl _ _ _ (by rfl) (by assumption) _ rfl #[.int .i64 0, .int .i64 0, .string ⟨#[]⟩, .string ⟨#[]⟩, .slice none 0 0] (by rfl) _ _ _ (by repeat (first | exact Pick.here | apply Pick.there)) (by kernel_rfl) (by kernel_rfl) (by kernel_rfl) ?_; intro w2 hR hsm hsz)
    refine bodyPost_rws2 rfl (by assumption) g0 rfl _ _ (List.Mem.head _) _ Tryz.underlying24 rfl (by kernel_rfl) _ rfl rfl (fun hbz => ?_)
    exact z_ret 201 w _ hbz
  obtain ⟨l, hl2⟩ : ∃ l, l = s.data.toList := ⟨_, rfl⟩
  have hls : s = bs l := by rw [hl2, bs_of]
  have hl1 : l.length ≤ 1024 := by rw [hl2]; omega
  rw [← hl2]
  clear hlen hl2 hl
  subst hls
  have hlz : ¬ (1024 : Int) < ((bs l).size : Int) := by rw [bs_size]; omega
  have hlr : ParseR l = (match parseT l with
    | none => (zPo, 200)
    | some p => if smallP p.kids then (p, 0) else (zPo, 201)) := by unfold ParseR; rw [if_neg (by omega)]
  rw [hlr]
  clear hlr
  have HP : Hid (∀ w, Calls Tryz.prog 34 #[.string (bs l)] w (PTo (parseT l) w)) := Lib.hid fun w => parse_any l w hl1
  cases hr : parseT l with
  | none =>
    rw [hr] at HP
    go_enter Tryz.func16, Tryz.ntmps16
    go_upto_region 1 with (refine wQ_alloc (cs := zP) rfl _ (by rfl) (by assumption) zero_pol ?_; intro g0 w1 hR hbg0 hg0)
    have hg0l : g0 < w1.heap.size := hR.lt (List.Mem.head _)
    go_wp2_with (first
      | (go_at_call 34; refine (HP.out _).mono ?_; rintro e w2 ⟨⟨ev, rfl, hev⟩, hb2⟩; have hR := hR.call hb2)
      | (refine wQ_alloc (cs := zP) rfl _ (by rfl) (by assumption) zero_pol ?_; intro g1 w3 hR hbg1 hg1)
      | (go_at_call 35; refine (is_err hev _).mono ?_; rintro e w5 ⟨rfl, hb5⟩; have hR := hR.call hb5)
      | (refine wQ_store rfl _ _ _ (by rfl) (by assumption) _ rfl #[.int .i64 0, .int .i64 0, .string ⟨#[]⟩, .string ⟨#[]⟩, .slice none 0 0] (by rfl) _ _ _ (by repeat (first | exact Pick.here | apply Pick.there)) (by kernel_rfl) (by kernel_rfl) (by kernel_rfl) ?_; intro w4 hR hsm hsz))
    refine bodyPost_rws2 rfl (by assumption) g0 rfl _ _ (List.Mem.head _) _ Tryz.underlying24 rfl (by kernel_rfl) _ rfl rfl (fun hbz => ?_)
    exact z_ret 200 w _ hbz
  | some p =>
    rw [hr] at HP
    cases hsm0 : smallP p.kids with
    | true =>
      simp only [hsm0, if_true]
      go_enter Tryz.func16, Tryz.ntmps16
      go_upto_region 1 with (refine wQ_alloc (cs := zP) rfl _ (by rfl) (by assumption) zero_pol ?_; intro g0 w1 hR hbg0 hg0)
      have hg0l : g0 < w1.heap.size := hR.lt (List.Mem.head _)
      go_upto_region 4 with (first
        | (go_at_call 34; refine (HP.out _).mono ?_; rintro e w2 ⟨⟨ap, cp, rfl, hsl⟩, hpn, hpt, hb2⟩; have hR := hR.call hb2)
        | (refine wQ_alloc (cs := zP) rfl _ (by rfl) (by assumption) zero_pol ?_; intro g1 w3 hR hbg1 hg1) | (refine wQ_store rfl _ _ _ (by rfl) (by assumption) _ rfl #[.int .i64 p.k, .int .i64 p.o, .string p.n, .string p.t, .slice ap p.kids.len cp] (by rfl) _ _ _ (by repeat (first | exact Pick.here | apply Pick.there)) (by kernel_rfl) (by kernel_rfl) (by kernel_rfl) ?_; intro w4 hR hsm hsz))
      have hsl4 : SlQ (fun k => (w.heap.size ≤ k ∧ k ≠ g0) ∧ k < w4.heap.size) w4 p.kids ap cp := hsl.same (fun k hk hlt => ⟨⟨by have := hbg0.size; omega, by omega⟩, by have := hbg1.size; omega⟩) (fun k hk hlt => (hsm k (by omega)).trans (hbg1.block k hlt))
      have HS : Hid (∀ w5, Below w4.heap.size w4 w5 → Calls Tryz.prog 28 #[pv p.k p.o p.n p.t ap p.kids.len cp] w5 (RetB true w5)) := Lib.hid fun w5 hb => by
        rw [← hsm0]
        exact small_any p.kids p.k p.o p.n p.t ap cp w5 ((hsl4.slf).grown hb)
      have HK := Lib.hid hsl4
      clear hsl hsl4 hsm hsz hbg1 hsm0
      go_wp2_with (first
        | (go_at_call 35; refine (is_nil _).mono ?_; rintro e w5 ⟨rfl, rfl⟩)
        | (go_at_call 28; refine (HS.out _ (Below.refl _ _)).mono ?_; rintro e w6 ⟨rfl, hb6⟩; have hR := hR.call hb6)
        | (refine wpList_load_rws rfl _ _ (by rfl) (by assumption) _ rfl _ _ (by repeat (first | exact List.Mem.head _ | refine List.Mem.tail _ ?_)) _ Tryz.underlying24 rfl (by kernel_rfl) ?_) | (refine wQ_store rfl _ _ _ (by rfl) (by assumption) _ rfl #[.int .i64 p.k, .int .i64 p.o, .string p.n, .string p.t, .slice ap p.kids.len cp] (by rfl) _ _ _ (by repeat (first | exact Pick.here | apply Pick.there)) (by kernel_rfl) (by kernel_rfl) (by kernel_rfl) ?_; intro w7 hR hsm hsz))
      refine bodyPost_rws2 rfl (by assumption) g0 rfl _ _ (List.Mem.head _) _ Tryz.underlying24 rfl (by kernel_rfl) _ rfl rfl (fun hbz => ?_)
      exact ⟨⟨ap, cp, rfl, HK.out.same (fun k hk _ => hk.1.1) (fun k hk hlt => (hsm k hk.1.2).trans (hb6.block k hlt))⟩, hpn, hpt, hbz⟩
    | false =>
      simp only [hsm0, Bool.false_eq_true, if_false]
      go_enter Tryz.func16, Tryz.ntmps16
      go_upto_region 1 with (refine wQ_alloc (cs := zP) rfl _ (by rfl) (by assumption) zero_pol ?_; intro g0 w1 hR hbg0 hg0)
      have hg0l : g0 < w1.heap.size := hR.lt (List.Mem.head _)
      go_upto_region 4 with (first
        | (go_at_call 34; refine (HP.out _).mono ?_; rintro e w2 ⟨⟨ap, cp, rfl, hsl⟩, hpn, hpt, hb2⟩; have hR := hR.call hb2)
        | (refine wQ_alloc (cs := zP) rfl _ (by rfl) (by assumption) zero_pol ?_; intro g1 w3 hR hbg1 hg1) | (refine wQ_store rfl _ _ _ (by rfl) (by assumption) _ rfl #[.int .i64 p.k, .int .i64 p.o, .string p.n, .string p.t, .slice ap p.kids.len cp] (by rfl) _ _ _ (by repeat (first | exact Pick.here | apply Pick.there)) (by kernel_rfl) (by kernel_rfl) (by kernel_rfl) ?_; intro w4 hR hsm hsz))
      have hsl4 : SlQ (fun k => (w.heap.size ≤ k ∧ k ≠ g0) ∧ k < w4.heap.size) w4 p.kids ap cp := hsl.same (fun k hk hlt => ⟨⟨by have := hbg0.size; omega, by omega⟩, by have := hbg1.size; omega⟩) (fun k hk hlt => (hsm k (by omega)).trans (hbg1.block k hlt))
      have HS : Hid (∀ w5, Below w4.heap.size w4 w5 → Calls Tryz.prog 28 #[pv p.k p.o p.n p.t ap p.kids.len cp] w5 (RetB false w5)) := Lib.hid fun w5 hb => by
        rw [← hsm0]
        exact small_any p.kids p.k p.o p.n p.t ap cp w5 ((hsl4.slf).grown hb)
      clear hsl hsl4 hsm hsz hbg1 hsm0
      go_wp2_with (first
        | (go_at_call 35; refine (is_nil _).mono ?_; rintro e w5 ⟨rfl, rfl⟩)
        | (go_at_call 28; refine (HS.out _ (Below.refl _ _)).mono ?_; rintro e w6 ⟨rfl, hb6⟩; have hR := hR.call hb6)
        | (refine wpList_load_rws rfl _ _ (by rfl) (by assumption) _ rfl _ _ (by repeat (first | exact List.Mem.head _ | refine List.Mem.tail _ ?_)) _ Tryz.underlying24 rfl (by kernel_rfl) ?_) | (refine wQ_store rfl _ _ _ (by rfl) (by assumption) _ rfl #[.int .i64 0, .int .i64 0, .string ⟨#[]⟩, .string ⟨#[]⟩, .slice none 0 0] (by rfl) _ _ _ (by repeat (first | exact Pick.here | apply Pick.there)) (by kernel_rfl) (by kernel_rfl) (by kernel_rfl) ?_; intro w7 hR hsm hsz))
      refine bodyPost_rws2 rfl (by assumption) g0 rfl _ _ (List.Mem.head _) _ Tryz.underlying24 rfl (by kernel_rfl) _ rfl rfl (fun hbz => ?_)
      exact z_ret 201 w _ hbz
end Go.Proofs.YthpagppipifgeaaGreatDoor
