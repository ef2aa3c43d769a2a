/- ZRead0 ZRead1 ZRead2 ZRead3, in one text. -/
import Derived.Test.YtebhiplcoioenaaGreatDoorZZSize
/- der.read: worlds in which a cursor turns; the walk's first errors. -/
namespace Go.Proofs.YtebhiplcoioenaaGreatDoor
open Go.RowKit

/-- What read answers. -/
def ReadQ (w : World) (c : Nat) (s : Bs) (x : Int × Dv × Bs) (e : Ending) (w' : World) : Prop :=
  (x.1 = 0 ∧ (∃ ad cp, e = .returned (.tuple #[dvv x.2.1 ad cp, .nilIface]) ∧ SlQ (fun k => w.heap.size ≤ k) w' x.2.1.l ad cp ∧ OwnD w.heap.size w' x.2.1.l.len ad cp) ∧ x.2.1.b.length ≤ SB ∧ (∃ q, Cur w' c s q ∧ s.drop q = x.2.2) ∧ Bes c w w')
  ∨ (x.1 ≠ 0 ∧ (∃ v ad cp er, e = .returned (.tuple #[dvv v ad cp, er]) ∧ ∃ m, ErrV x.1 m er) ∧ (∃ q, Cur w' c s q) ∧ Bes c w w')
section
variable {B c : Nat} {w0 w w' : World} {L L' : List (Nat × Array Value × TypeId)} {cs cs' old : Array Value} {t : TypeId}
theorem Rws.begin (h : w0.heap[c]? = some (.cells cs t (0, 0))) : Rws w0.heap.size (w0.setRow c cs) w0 [] :=
  ⟨⟨rfl, rfl, rfl, by rw [size_setRow]; exact Nat.le_refl _, fun k _ => by
    by_cases hk : k = c
    · subst hk; rw [heap_row (cs' := cs) h, h]
    · rw [setRow_other w0 c k cs hk]⟩, Nat.le_refl _, fun _ h => absurd h List.not_mem_nil, List.Pairwise.nil⟩
/-- Behind a call that turns the one block of before. -/
theorem Rws.bes0 (h : Rws B (w0.setRow c cs) w L) (hc : c < B) (h0 : w0.heap[c]? = some (.cells old t (0, 0))) (hb : Bes c w w') (hn : w'.heap[c]? = some (.cells cs' t (0, 0))) : Rws B (w0.setRow c cs') w' L := by
  have hl := h.len
  have hlt : ∀ x, x ∈ L → x.1 ≠ c := fun x hx e => by have := (h.row x hx).1; omega
  have h1 := h.below
  refine ⟨⟨hb.base.os.trans h1.os, hb.base.tape.trans h1.tape, hb.base.output.trans h1.output, ?_, fun k hk => ?_⟩, Nat.le_trans hl hb.size, fun x hx => ⟨(h.row x hx).1, (hb.same _ (h.lt hx) (hlt x hx)).trans (h.row x hx).2⟩, h.nd⟩
  · have := h1.size; rw [size_setRow] at this ⊢; exact Nat.le_trans this hb.size
  · by_cases hk2 : k = c
    · subst hk2; rw [hn, heap_row (cs' := cs') h0]
    · rw [hb.same k (Nat.lt_of_lt_of_le hk hl) hk2, h1.block k hk, setRow_other w0 c k cs hk2, setRow_other w0 c k cs' hk2]
/-- Behind a call that turns a block of one's own. -/
theorem Rws.besL {g : Nat} (h : Rws B w0 w L) (hp : Pick L (g, cs, t) L') (hb : Bes g w w') (hn : w'.heap[g]? = some (.cells cs' t (0, 0))) : Rws B w0 w' ((g, cs', t) :: L') := by
  have hg := h.row _ hp.mem
  have hne := hp.ne h.nd
  have hl := h.len
  have hs := fun x hx => (hp.sub.subset hx : x ∈ L)
  refine Rws.add ⟨h.below.trans ⟨hb.base.os, hb.base.tape, hb.base.output, hb.size, fun k hk => hb.same k (Nat.lt_of_lt_of_le hk hl) (fun e => by have := hg.1; simp only at this; omega)⟩, Nat.le_trans hl hb.size, fun x hx => ⟨(h.row x (hs x hx)).1, (hb.same _ (h.lt (hs x hx)) (hne x hx)).trans (h.row x (hs x hx)).2⟩, h.nd.sublist hp.sub⟩ hg.1 hn (fun x hx => hne x hx)
theorem Bes.of0 (hb : Below w0.heap.size (w0.setRow c cs) w') : Bes c w0 w' := by
  refine ⟨⟨hb.os, hb.tape, hb.output, ?_, fun _ h => absurd h (Nat.not_lt_zero _)⟩, fun k hk hne => (hb.block k hk).trans (setRow_other w0 c k cs hne)⟩
  have := hb.size; rw [size_setRow] at this; exact this
end
theorem zero_der (w : World) : (zeroValue 24).run Tryz.prog w = .ok (.agg (dvC .zero none 0)) w := by kernel_rfl
theorem Gd.turn {w : World} {c p : Nat} {s : Bs} {cs' : Array Value} {t : TypeId} (h : Gd w) (hC : w.heap[c]? = some (.cells (curC s p) t (0, 0))) : Gd (w.setRow c cs') := by
  have hc0 : w.cell? ⟨c, 0, none⟩ = some (.string (bs s)) := by rw [cell_of_row w c 0 _ _ _ hC]; rfl
  refine ⟨?_, ?_, ?_⟩
  · have h0 := h.ty
    unfold ErrTy at h0 ⊢
    rw [World.cell?_of_block (w := w) (setRow_other w c 0 cs' (fun e => by subst e; rw [hc0] at h0; cases h0))]
    exact h0
  · obtain ⟨m, hm⟩ := h.most
    refine ⟨m, ?_⟩
    rw [World.cell?_of_block (w := w) (setRow_other w c 2 cs' (fun e => by rw [e, hc0] at hm; cases hm))]
    exact hm
  · obtain ⟨g, hg⟩ := Option.isSome_iff_exists.1 pow_named
    have h1 := h.tab
    unfold Lib.TabIs World.var? at h1 ⊢
    rw [hg] at h1 ⊢
    simp only [Option.bind_some] at h1 ⊢
    rw [setRow_other w c g cs' (fun e => by
      subst e
      rw [hC] at h1
      simp only [Option.some.injEq] at h1
      have h2 := congrArg Array.toList h1
      cases hz : Lib.pow10Tab with
      | nil => rw [hz] at h2; simp at h2
      | cons a l => rw [hz] at h2; simp at h2)]
    exact h1
theorem Gd.turned {w u : World} {c p : Nat} {s : Bs} {cs' : Array Value} {t : TypeId} (h : Gd w) (hC : w.heap[c]? = some (.cells (curC s p) t (0, 0))) (hb : Below w.heap.size (w.setRow c cs') u) : Gd u :=
  (h.turn (cs' := cs') hC).below (by rw [size_setRow]; exact hb)
theorem Cur.row {w : World} {c : Nat} {s : Bs} {p : Nat} (h : Cur w c s p) : w.heap[c]? = some (.cells (curC s p) 81 (0, 0)) := h.1
set_option maxRecDepth 100000 in
set_option maxHeartbeats 4000000 in
theorem read_none (s : Bs) (p c h n : Nat) (w : World) (hC : Cur w c s p) (hd : s.drop p = []) : Calls Tryz.prog 33 #[.pointer (some ⟨c, 0, none⟩), .int .i64 n] w (ReadQ w c s (rdS h (s.drop p))) := by
  have hx : rdS h (s.drop p) = (60, .zero, []) := by rw [hd]; cases h <;> rfl
  have hR := Rws.begin hC.row
  have HB : Hid (∀ u, Cur u c s p → Calls Tryz.prog 61 #[.pointer (some ⟨c, 0, none⟩)] u fun e w' => e = .returned (.tuple #[.int .u8 0, .int .i64 15]) ∧ Below u.heap.size u w') := Lib.hid fun u hu => Byte_short s p c u hu (by rw [List.drop_eq_nil_iff] at hd; exact hd)
  have HC := Lib.hid hC
  have hlt := hC.lt
  rw [hx]
  clear hC hd hx
  go_enter Tryz.func33, Tryz.ntmps33
  go_upto_region 1 with (refine wpList_alloc_rws rfl _ (by rfl) (by exact hR) (dvC .zero none 0) zero_der ?_; intro g4 w1 hR)
  have HC1 : Hid (Cur w1 c s p) := Lib.hid ⟨by rw [hR.below.block c hlt]; exact heap_row HC.out.1, HC.out.2⟩
  go_wp2_with (first
    | (go_at_call 61; refine (HB.out _ HC1.out).mono ?_; rintro e w2 ⟨rfl, hb2⟩; have hR := hR.call hb2)
    | (refine wpList_store_rws rfl _ _ _ (by rfl) (by exact hR) g4 rfl (dvC .zero none 0) (by rfl) _ _ _ (by repeat (first | exact Pick.here | apply Pick.there)) (by kernel_rfl) (by kernel_rfl) (by kernel_rfl) ?_; intro w3 hR))
  have HR := Lib.hid hR
  refine bodyPost_rws2 rfl HR.out g4 rfl _ _ (List.Mem.head _) _ Tryz.underlying24 rfl (by kernel_rfl) _ rfl rfl (fun hbz => ?_)
  exact Or.inr ⟨by decide, ⟨.zero, none, 0, _, rfl, 0, ErrV.wrong⟩, ⟨p, by rw [hbz.block c hlt]; exact heap_row HC.out.1, HC.out.2⟩, Bes.of0 hbz⟩
end Go.Proofs.YtebhiplcoioenaaGreatDoor
/- der.read: the walk's errors of a head and of a length. -/
namespace Go.Proofs.YtebhiplcoioenaaGreatDoor
open Go.RowKit

def manyS : Nat → Bs → Int × Dr
  | 0 => fun _ => (0, .nil)
  | h + 1 => rdsS (rdS h)
theorem rdS_B : ∀ (h : Nat), rdS h = rdB (16 - h) (manyS h)
  | 0 => rfl
  | h + 1 => by
    show rdB (15 - h) (rdsS (rdS h)) = rdB (16 - (h + 1)) (rdsS (rdS h))
    rw [show 16 - (h + 1) = 15 - h by omega]
@[reducible] def dX (x : UInt8) : Dv := ⟨(x.toNat / 64 : Nat), (x.toNat % 32 : Nat), x.toNat / 32 % 2 == 1, [], .nil⟩
theorem and_32 (x : UInt8) : (bits BinOp.and IntKind.u8 (x.toNat : Int) 32 != 0) = (x.toNat / 32 % 2 == 1) := by
  have key : ∀ k : Fin 256, (bits BinOp.and IntKind.u8 (k.val : Int) 32 != 0) = (k.val / 32 % 2 == 1) := by decide +kernel
  exact key ⟨x.toNat, x.toNat_lt⟩
@[reducible] def rawC (x : UInt8) : Array Value := #[.int .i64 ((x.toNat : Int) / 64), .int .i64 ((x.toNat : Int) % 32), .bool (bits BinOp.and IntKind.u8 (x.toNat : Int) 32 != 0), .string ⟨#[]⟩, .slice none 0 0]
theorem raw_eq (x : UInt8) : rawC x = dvC (dX x) none 0 := by
  show (#[.int .i64 ((x.toNat : Int) / 64), .int .i64 ((x.toNat : Int) % 32), .bool (bits BinOp.and IntKind.u8 (x.toNat : Int) 32 != 0), .string ⟨#[]⟩, .slice none 0 0] : Array Value) = _
  rw [and_32]
  rfl
theorem raw_one (x : UInt8) : (rawC x).all (·.oneCell') = true := by simp [rawC, Value.oneCell']
set_option maxRecDepth 100000 in
set_option maxHeartbeats 4000000 in
theorem read_head (s r : Bs) (x : UInt8) (p c h n : Nat) (w : World) (hn : n = 16 - h) (hC : Cur w c s p) (hd : s.drop p = x :: r) (he : headE (dX x).c (dX x).t (dX x).k [] 0 n ≠ 0) : Calls Tryz.prog 33 #[.pointer (some ⟨c, 0, none⟩), .int .i64 n] w (ReadQ w c s (rdS h (s.drop p))) := by
  have hx : rdS h (s.drop p) = (headE (dX x).c (dX x).t (dX x).k [] 0 n, .zero, []) := by
    rw [hd, rdS_B, ← hn, rdB]
    simp only
    rw [if_pos he]
  have hR := Rws.begin hC.row
  have HB : Hid (∀ u, Cur u c s p → Calls Tryz.prog 61 #[.pointer (some ⟨c, 0, none⟩)] u fun e w' => e = .returned (.tuple #[.int .u8 (x.toNat : Nat), .int .i64 0]) ∧ Cur w' c s (p + 1) ∧ Bes c u w') := Lib.hid fun u hu => Byte_ok s r x p c u hu hd
  obtain ⟨E, hE⟩ : ∃ E, E = headE (dX x).c (dX x).t (dX x).k [] 0 n := ⟨_, rfl⟩
  rw [← hE] at he hx
  have HH : Hid (∀ u, Calls Tryz.prog 62 #[dvv (dX x) none 0, .int .i64 n] u fun e w' => e = .returned (wrV E) ∧ Below u.heap.size u w') := Lib.hid fun u => by
    have := head_any (dX x) none 0 n u
    rw [show (dX x).l.len = 0 from rfl, ← hE] at this
    unfold errO at this
    rw [if_neg he] at this
    exact this
  have HC := Lib.hid hC
  have HE := Lib.hid he
  have hlt := hC.lt
  rw [hx]
  clear hC hd hx hn hE he
  have hxl : x.toNat < 256 := x.toNat_lt
  go_enter Tryz.func33, Tryz.ntmps33
  go_upto_region 1 with (refine wpList_alloc_rws rfl _ (by rfl) (by exact hR) (dvC .zero none 0) zero_der ?_; intro g4 w1 hR)
  have HC1 : Hid (Cur w1 c s p) := Lib.hid ⟨by rw [hR.below.block c hlt]; exact heap_row HC.out.1, HC.out.2⟩
  go_upto_region 2 with (go_at_call 61; refine (HB.out _ HC1.out).mono ?_; rintro e w2 ⟨rfl, hc2, hb2⟩; have hR := hR.bes0 hlt HC.out.1 hb2 hc2.row)
  go_upto_region 5 with (first
    | (refine wpList_alloc_rws rfl _ (by rfl) (by exact hR) (dvC .zero none 0) zero_der ?_; intro g8 w3 hR)
    | (refine wpList_store_rws rfl _ _ _ (by rfl) (by exact hR) g8 rfl (rawC x) (by rfl) _ _ _ (by repeat (first | exact Pick.here | apply Pick.there)) (by kernel_rfl) (by rfl) (raw_one x) ?_; intro w4 hR))
  rw [raw_eq] at hR
  go_upto_region 6 with (first
    | (refine wpList_load_rws rfl _ _ (by rfl) (by exact hR) g8 rfl (dvC (dX x) none 0) _ (by repeat (first | exact List.Mem.head _ | refine List.Mem.tail _ ?_)) _ Tryz.underlying24 rfl (by kernel_rfl) ?_)
    | (go_at_call 62; refine (HH.out _).mono ?_; rintro e w5 ⟨rfl, hb5⟩; have hR := hR.call hb5))
  go_wp2_with (refine wpList_store_rws rfl _ _ _ (by rfl) (by exact hR) g4 rfl (dvC .zero none 0) (by rfl) _ _ _ (by repeat (first | exact Pick.here | apply Pick.there)) (by kernel_rfl) (by kernel_rfl) (by kernel_rfl) ?_; intro w6 hR)
  have HR := Lib.hid hR
  refine bodyPost_rws2 rfl HR.out g4 rfl _ _ (List.Mem.head _) _ Tryz.underlying24 rfl (by kernel_rfl) _ rfl rfl (fun hbz => ?_)
  exact Or.inr ⟨HE.out, ⟨.zero, none, 0, _, rfl, 0, ErrV.wrong⟩, ⟨p + 1, by rw [hbz.block c hlt]; exact heap_row HC.out.1, hc2.2⟩, Bes.of0 hbz⟩
end Go.Proofs.YtebhiplcoioenaaGreatDoor
/- der.read: the walks of a bad length, of too few bytes, and of a primitive value (gen_zread.py). -/
namespace Go.Proofs.YtebhiplcoioenaaGreatDoor
open Go.RowKit

set_option maxRecDepth 100000 in
set_option maxHeartbeats 8000000 in
theorem read_size (s r : Bs) (x : UInt8) (p c h n : Nat) (w : World) (hn : n = 16 - h) (hC : Cur w c s p) (hd : s.drop p = x :: r) (he : headE (dX x).c (dX x).t (dX x).k [] 0 n = 0) (hz : (sizeS r).1 ≠ 0) : Calls Tryz.prog 33 #[.pointer (some ⟨c, 0, none⟩), .int .i64 n] w (ReadQ w c s (rdS h (s.drop p))) := by
  have hSB := SB_eq
  have hr1 : s.drop (p + 1) = r := by rw [← List.drop_drop, hd]; rfl
  have hx : rdS h (s.drop p) = ((sizeS r).1, .zero, []) := by
    rw [hd, rdS_B, ← hn, rdB]
    simp only
    rw [if_neg (by rw [he]; simp), if_pos hz]
  have hR := Rws.begin hC.row
  have HB : Hid (∀ u, Cur u c s p → Calls Tryz.prog 61 #[.pointer (some ⟨c, 0, none⟩)] u fun e w' => e = .returned (.tuple #[.int .u8 (x.toNat : Nat), .int .i64 0]) ∧ Cur w' c s (p + 1) ∧ Bes c u w') := Lib.hid fun u hu => Byte_ok s r x p c u hu hd
  have HH : Hid (∀ u, Calls Tryz.prog 62 #[dvv (dX x) none 0, .int .i64 n] u fun e w' => e = .returned .nilIface ∧ Below u.heap.size u w') := Lib.hid fun u => by
    have := head_any (dX x) none 0 n u
    rw [show (dX x).l.len = 0 from rfl, he] at this
    exact this
  have HSZ : Hid (∀ u, Cur u c s (p + 1) → Calls Tryz.prog 63 #[.pointer (some ⟨c, 0, none⟩)] u (SizeQ u c s (sizeS r))) := Lib.hid fun u hu => by
    have := size_any s (p + 1) c u hu
    rw [hr1] at this
    exact this
  have HC := Lib.hid hC
  have hlt := hC.lt
  rw [hx]
  obtain ⟨z, hzz⟩ : ∃ z, z = sizeS r := ⟨_, rfl⟩
  rw [← hzz] at HSZ hz ⊢
  have HE := Lib.hid hz
  clear hC hd hx hn he hzz hz hr1
  have hxl : x.toNat < 256 := x.toNat_lt
  go_enter Tryz.func33, Tryz.ntmps33
  go_upto_region 1 with (refine wpList_alloc_rws rfl _ (by rfl) (by exact hR) (dvC .zero none 0) zero_der ?_; intro g4 w1 hR)
  have HC1 : Hid (Cur w1 c s p) := Lib.hid ⟨by rw [hR.below.block c hlt]; exact heap_row HC.out.1, HC.out.2⟩
  go_upto_region 2 with (go_at_call 61; refine (HB.out _ HC1.out).mono ?_; rintro e w2 ⟨rfl, hc2, hb2⟩; have hR := hR.bes0 hlt HC.out.1 hb2 hc2.row)
  go_upto_region 5 with (first
    | (refine wpList_alloc_rws rfl _ (by rfl) (by exact hR) (dvC .zero none 0) zero_der ?_; intro g8 w3 hR)
    | (refine wpList_store_rws rfl _ _ _ (by rfl) (by exact hR) g8 rfl (rawC x) (by rfl) _ _ _ (by repeat (first | exact Pick.here | apply Pick.there)) (by kernel_rfl) (by rfl) (raw_one x) ?_; intro w4 hR))
  rw [raw_eq] at hR
  go_upto_region 6 with (first
    | (refine wpList_load_rws rfl _ _ (by rfl) (by exact hR) g8 rfl (dvC (dX x) none 0) _ (by repeat (first | exact List.Mem.head _ | refine List.Mem.tail _ ?_)) _ Tryz.underlying24 rfl (by kernel_rfl) ?_)
    | (go_at_call 62; refine (HH.out _).mono ?_; rintro e w5 ⟨rfl, hb5⟩; have hR := hR.call hb5))
  have HC5 : Hid (Cur w5 c s (p + 1)) := Lib.hid ⟨by rw [hR.below.block c hlt]; exact heap_row HC.out.1, hc2.2⟩
  go_wp2_with (first
    | (go_at_call 63; refine (HSZ.out _ HC5.out).mono ?_; rintro e w6 (⟨hq, _⟩ | ⟨_, ⟨m, rfl⟩, ⟨q, hc6⟩, hb6⟩); exact absurd hq HE.out; have hR := hR.bes0 hlt HC.out.1 hb6 hc6.row)
    | (refine wpList_store_rws rfl _ _ _ (by rfl) (by exact hR) g4 rfl (dvC .zero none 0) (by rfl) _ _ _ (by repeat (first | exact Pick.here | apply Pick.there)) (by kernel_rfl) (by kernel_rfl) (by kernel_rfl) ?_; intro w9 hR))
  have HR := Lib.hid hR
  refine bodyPost_rws2 rfl HR.out g4 rfl _ _ (List.Mem.head _) _ Tryz.underlying24 rfl (by kernel_rfl) _ rfl rfl (fun hbz => ?_)
  exact Or.inr ⟨HE.out, ⟨.zero, none, 0, _, rfl, 0, ErrV.wrong⟩, ⟨q, by rw [hbz.block c hlt]; exact heap_row HC.out.1, hc6.2⟩, Bes.of0 hbz⟩
set_option maxRecDepth 100000 in
set_option maxHeartbeats 8000000 in
theorem read_short (s r : Bs) (x : UInt8) (p c h n : Nat) (w : World) (hn : n = 16 - h) (hC : Cur w c s p) (hd : s.drop p = x :: r) (he : headE (dX x).c (dX x).t (dX x).k [] 0 n = 0) (hz : (sizeS r).1 = 0) (hlen : (sizeS r).2.2.length < (sizeS r).2.1) : Calls Tryz.prog 33 #[.pointer (some ⟨c, 0, none⟩), .int .i64 n] w (ReadQ w c s (rdS h (s.drop p))) := by
  have hSB := SB_eq
  have hr1 : s.drop (p + 1) = r := by rw [← List.drop_drop, hd]; rfl
  have hx : rdS h (s.drop p) = (60, .zero, []) := by
    rw [hd, rdS_B, ← hn, rdB]
    simp only
    rw [if_neg (by rw [he]; simp), if_neg (by rw [hz]; simp), if_pos hlen]
  have hR := Rws.begin hC.row
  have HB : Hid (∀ u, Cur u c s p → Calls Tryz.prog 61 #[.pointer (some ⟨c, 0, none⟩)] u fun e w' => e = .returned (.tuple #[.int .u8 (x.toNat : Nat), .int .i64 0]) ∧ Cur w' c s (p + 1) ∧ Bes c u w') := Lib.hid fun u hu => Byte_ok s r x p c u hu hd
  have HH : Hid (∀ u, Calls Tryz.prog 62 #[dvv (dX x) none 0, .int .i64 n] u fun e w' => e = .returned .nilIface ∧ Below u.heap.size u w') := Lib.hid fun u => by
    have := head_any (dX x) none 0 n u
    rw [show (dX x).l.len = 0 from rfl, he] at this
    exact this
  have HSZ : Hid (∀ u, Cur u c s (p + 1) → Calls Tryz.prog 63 #[.pointer (some ⟨c, 0, none⟩)] u (SizeQ u c s (sizeS r))) := Lib.hid fun u hu => by
    have := size_any s (p + 1) c u hu
    rw [hr1] at this
    exact this
  have HC := Lib.hid hC
  have hlt := hC.lt
  rw [hx]
  obtain ⟨z, hzz⟩ : ∃ z, z = sizeS r := ⟨_, rfl⟩
  rw [← hzz] at HSZ hz hlen
  have HZ := Lib.hid hz
  clear hC hd hx hn he hzz hz hr1
  have hxl : x.toNat < 256 := x.toNat_lt
  go_enter Tryz.func33, Tryz.ntmps33
  go_upto_region 1 with (refine wpList_alloc_rws rfl _ (by rfl) (by exact hR) (dvC .zero none 0) zero_der ?_; intro g4 w1 hR)
  have HC1 : Hid (Cur w1 c s p) := Lib.hid ⟨by rw [hR.below.block c hlt]; exact heap_row HC.out.1, HC.out.2⟩
  go_upto_region 2 with (go_at_call 61; refine (HB.out _ HC1.out).mono ?_; rintro e w2 ⟨rfl, hc2, hb2⟩; have hR := hR.bes0 hlt HC.out.1 hb2 hc2.row)
  go_upto_region 5 with (first
    | (refine wpList_alloc_rws rfl _ (by rfl) (by exact hR) (dvC .zero none 0) zero_der ?_; intro g8 w3 hR)
    | (refine wpList_store_rws rfl _ _ _ (by rfl) (by exact hR) g8 rfl (rawC x) (by rfl) _ _ _ (by repeat (first | exact Pick.here | apply Pick.there)) (by kernel_rfl) (by rfl) (raw_one x) ?_; intro w4 hR))
  rw [raw_eq] at hR
  go_upto_region 6 with (first
    | (refine wpList_load_rws rfl _ _ (by rfl) (by exact hR) g8 rfl (dvC (dX x) none 0) _ (by repeat (first | exact List.Mem.head _ | refine List.Mem.tail _ ?_)) _ Tryz.underlying24 rfl (by kernel_rfl) ?_)
    | (go_at_call 62; refine (HH.out _).mono ?_; rintro e w5 ⟨rfl, hb5⟩; have hR := hR.call hb5))
  have HC5 : Hid (Cur w5 c s (p + 1)) := Lib.hid ⟨by rw [hR.below.block c hlt]; exact heap_row HC.out.1, hc2.2⟩
  go_upto_region 9 with (go_at_call 63; refine (HSZ.out _ HC5.out).mono ?_; rintro e w6 (⟨_, rfl, ⟨q, hc6, hq6⟩, hb6⟩ | ⟨hq, _⟩); have hR := hR.bes0 hlt HC.out.1 hb6 hc6.row; rotate_left; exact absurd HZ.out hq)
  have HWI : Hid (Calls Tryz.prog 64 #[.pointer (some ⟨c, 0, none⟩), .int .i64 (z.2.1 : Nat)] w6 fun e w' => e = .returned (.tuple #[.pointer none, .int .i64 15]) ∧ Below w6.heap.size w6 w') := Lib.hid (Within_short s q c z.2.1 w6 hc6 (by rw [← List.length_drop, hq6]; exact hlen))
  go_wp2_with (first
    | (go_at_call 64; refine HWI.out.mono ?_; rintro e w7 ⟨rfl, hb7⟩; have hR := hR.call hb7)
    | (refine wpList_store_rws rfl _ _ _ (by rfl) (by exact hR) g4 rfl (dvC .zero none 0) (by rfl) _ _ _ (by repeat (first | exact Pick.here | apply Pick.there)) (by kernel_rfl) (by kernel_rfl) (by kernel_rfl) ?_; intro w9 hR))
  have HR := Lib.hid hR
  refine bodyPost_rws2 rfl HR.out g4 rfl _ _ (List.Mem.head _) _ Tryz.underlying24 rfl (by kernel_rfl) _ rfl rfl (fun hbz => ?_)
  exact Or.inr ⟨by decide, ⟨.zero, none, 0, _, rfl, 0, ErrV.wrong⟩, ⟨q, by rw [hbz.block c hlt]; exact heap_row HC.out.1, hc6.2⟩, Bes.of0 hbz⟩
end Go.Proofs.YtebhiplcoioenaaGreatDoor
/- der.read: the walk of a primitive value (gen_zread.py). -/
namespace Go.Proofs.YtebhiplcoioenaaGreatDoor
open Go.RowKit

theorem dv_one (v : Dv) (ad : Option Addr) (cp : Nat) : (dvC v ad cp).all (·.oneCell') = true := by simp [Value.oneCell']
set_option maxRecDepth 100000 in
set_option maxHeartbeats 8000000 in
theorem read_prim (s r : Bs) (x : UInt8) (p c h n : Nat) (w : World) (hn : n = 16 - h) (hC : Cur w c s p) (hd : s.drop p = x :: r) (he : headE (dX x).c (dX x).t (dX x).k [] 0 n = 0) (hz : (sizeS r).1 = 0) (hlen : (sizeS r).2.1 ≤ (sizeS r).2.2.length) (hk : (dX x).k = false) (hg : Gd w) : Calls Tryz.prog 33 #[.pointer (some ⟨c, 0, none⟩), .int .i64 n] w (ReadQ w c s (rdS h (s.drop p))) := by
  have hSB := SB_eq
  have hr1 : s.drop (p + 1) = r := by rw [← List.drop_drop, hd]; rfl
  have hx : rdS h (s.drop p) = if (dX x).c = 0 ∧ fineS (dX x).t ((sizeS r).2.2.take (sizeS r).2.1) = false then (61, .zero, []) else (0, ⟨(dX x).c, (dX x).t, false, (sizeS r).2.2.take (sizeS r).2.1, .nil⟩, (sizeS r).2.2.drop (sizeS r).2.1) := by
    rw [hd, rdS_B, ← hn, rdB]
    simp only
    rw [if_neg (by rw [he]; simp), if_neg (by rw [hz]; simp), if_neg (by omega), if_pos hk]
  have hR := Rws.begin hC.row
  have HB : Hid (∀ u, Cur u c s p → Calls Tryz.prog 61 #[.pointer (some ⟨c, 0, none⟩)] u fun e w' => e = .returned (.tuple #[.int .u8 (x.toNat : Nat), .int .i64 0]) ∧ Cur w' c s (p + 1) ∧ Bes c u w') := Lib.hid fun u hu => Byte_ok s r x p c u hu hd
  have HH : Hid (∀ u, Calls Tryz.prog 62 #[dvv (dX x) none 0, .int .i64 n] u fun e w' => e = .returned .nilIface ∧ Below u.heap.size u w') := Lib.hid fun u => by
    have := head_any (dX x) none 0 n u
    rw [show (dX x).l.len = 0 from rfl, he] at this
    exact this
  have HSZ : Hid (∀ u, Cur u c s (p + 1) → Calls Tryz.prog 63 #[.pointer (some ⟨c, 0, none⟩)] u (SizeQ u c s (sizeS r))) := Lib.hid fun u hu => by
    have := size_any s (p + 1) c u hu
    rw [hr1] at this
    exact this
  have HC := Lib.hid hC
  have hlt := hC.lt
  have hzl : (sizeS r).2.1 < 65536 := (sizeS_form (s := r) (r := (sizeS r).2.2) (n := (sizeS r).2.1) (Prod.ext hz rfl)).2
  obtain ⟨z, hzz⟩ : ∃ z, z = sizeS r := ⟨_, rfl⟩
  rw [← hzz] at HSZ hz hlen hzl hx
  have hpr : (dX x).c = 0 → primL.contains (dX x).t = true := fun hc => head_zero (v := dX x) he hc hk
  obtain ⟨C, T, hv⟩ : ∃ C T, dX x = ⟨C, T, false, [], .nil⟩ := ⟨(dX x).c, (dX x).t, congrArg (fun k => (⟨(dX x).c, (dX x).t, k, [], .nil⟩ : Dv)) hk⟩
  rw [hv] at hx hpr
  have HV := Lib.hid hv
  have HX := Lib.hid hx
  have HPR := Lib.hid hpr
  have HZ := Lib.hid hz
  have HZL := Lib.hid hzl
  have HGD := Lib.hid hg
  clear hC hd hx hn hzz hz hr1 he hzl hg hk hv hpr
  have hxl : x.toNat < 256 := x.toNat_lt
  go_enter Tryz.func33, Tryz.ntmps33
  go_upto_region 1 with (refine wpList_alloc_rws rfl _ (by rfl) (by exact hR) (dvC .zero none 0) zero_der ?_; intro g4 w1 hR)
  have HC1 : Hid (Cur w1 c s p) := Lib.hid ⟨by rw [hR.below.block c hlt]; exact heap_row HC.out.1, HC.out.2⟩
  go_upto_region 2 with (go_at_call 61; refine (HB.out _ HC1.out).mono ?_; rintro e w2 ⟨rfl, hc2, hb2⟩; have hR := hR.bes0 hlt HC.out.1 hb2 hc2.row)
  go_upto_region 5 with (first
    | (refine wpList_alloc_rws rfl _ (by rfl) (by exact hR) (dvC .zero none 0) zero_der ?_; intro g8 w3 hR)
    | (refine wpList_store_rws rfl _ _ _ (by rfl) (by exact hR) g8 rfl (rawC x) (by rfl) _ _ _ (by repeat (first | exact Pick.here | apply Pick.there)) (by kernel_rfl) (by rfl) (raw_one x) ?_; intro w4 hR))
  rw [raw_eq] at hR
  go_upto_region 6 with (first
    | (refine wpList_load_rws rfl _ _ (by rfl) (by exact hR) g8 rfl (dvC (dX x) none 0) _ (by repeat (first | exact List.Mem.head _ | refine List.Mem.tail _ ?_)) _ Tryz.underlying24 rfl (by kernel_rfl) ?_)
    | (go_at_call 62; refine (HH.out _).mono ?_; rintro e w5 ⟨rfl, hb5⟩; have hR := hR.call hb5))
  have HC5 : Hid (Cur w5 c s (p + 1)) := Lib.hid ⟨by rw [hR.below.block c hlt]; exact heap_row HC.out.1, hc2.2⟩
  go_upto_region 9 with (go_at_call 63; refine (HSZ.out _ HC5.out).mono ?_; rintro e w6 (⟨_, rfl, ⟨q, hc6, hq6⟩, hb6⟩ | ⟨hq, _⟩); have hR := hR.bes0 hlt HC.out.1 hb6 hc6.row; rotate_left; exact absurd HZ.out hq)
  have hm : z.2.1 ≤ s.length - q := by rw [← List.length_drop, hq6]; exact hlen
  have HWI := Lib.hid (Within_ok s q c z.2.1 w6 hc6 hm)
  have hin : ((s.drop q).take z.2.1).length = z.2.1 := by rw [List.length_take, List.length_drop]; omega
  have hmore : s.drop (q + z.2.1) = z.2.2.drop z.2.1 := by rw [← List.drop_drop, hq6]
  rw [hq6] at HWI hin
  have hzl := HZL.out
  have HMO := Lib.hid hmore
  clear hlen hm hq6 hmore
  obtain ⟨inner, hinner⟩ : ∃ inner, inner = z.2.2.take z.2.1 := ⟨_, rfl⟩
  obtain ⟨more, hmo⟩ : ∃ more, more = z.2.2.drop z.2.1 := ⟨_, rfl⟩
  rw [← hinner] at HWI hin HX
  rw [← hmo] at HMO HX
  generalize z.2.1 = m at *
  clear hinner hmo HSZ HZ
  rw [HV.out] at hR
  go_upto_region 12 with (go_at_call 64; refine HWI.out.mono ?_; rintro e w7 ⟨d, rfl, hdl, hcd, hc7, hb7⟩; have hR := (hR.bes0 hlt HC.out.1 hb7 hc7.row).add (Nat.le_trans hR.len hdl) hcd.row (fun y hy e => by have := hR.lt hy; omega))
  have HTK := Lib.hid (Take_ok inner 0 d m w7 hcd (by rw [hin]; exact Nat.le_refl _))
  rw [List.drop_zero, List.take_of_length_le (Nat.le_of_eq hin)] at HTK
  have HBYA : Hid (C = 0 → ∀ u, Below w.heap.size (w.setRow c (curC s (q + m))) u → Calls Tryz.prog 66 #[.int .i64 T, .string (bs inner)] u fun e w' => e = .returned (fineV (fineS T inner)) ∧ Below u.heap.size u w') := Lib.hid fun hc u hu => bytes_any T (HPR.out hc) inner u (by omega) (HGD.out.turned HC.out.1 hu) (fun _ => by omega)
  have f2 := hR.cellAt (g := g8) (by repeat (first | exact List.Mem.head _ | refine List.Mem.tail _ ?_)) 2 rfl
  go_upto_region 16 with (first
    | (go_at_call 65; refine HTK.out.mono ?_; rintro e w8 ⟨rfl, hcd8, hb8⟩; have hR := hR.besL (by repeat (first | exact Pick.here | apply Pick.there)) hb8 hcd8.row)
    | (refine wR_storec (g := g8) (k := 3) (new := dvC ⟨C, T, false, inner, .nil⟩ none 0) rfl (by rfl) (by exact hR) rfl rfl (by repeat (first | exact Pick.here | apply Pick.there)) rfl (by kernel_rfl) (by exact (show 3 < 5 by decide)) (by rfl) rfl ?_; intro w9 hR))
  clear f2
  have f0 := hR.cellAt (g := g8) (by repeat (first | exact List.Mem.head _ | refine List.Mem.tail _ ?_)) 0 rfl
  have f1 := hR.cellAt (g := g8) (by repeat (first | exact List.Mem.head _ | refine List.Mem.tail _ ?_)) 1 rfl
  have f3 := hR.cellAt (g := g8) (by repeat (first | exact List.Mem.head _ | refine List.Mem.tail _ ?_)) 3 rfl
  have HR9 := Lib.hid hR
  clear hR
  by_cases hc : C = 0
  · subst hc
    have HBYB := Lib.hid (HBYA.out rfl)
    cases hf : fineS T inner with
    | true =>
      have HX2 : Hid (rdS h (s.drop p) = (0, ⟨0, T, false, inner, .nil⟩, more)) := Lib.hid (by rw [HX.out, if_neg (by rw [hf]; simp)])
      rw [hf] at HBYB
      clear hf
      go_upto_region 18 with (go_at_call 66; refine (HBYB.out _ HR9.out.below).mono ?_; rintro e w10 ⟨rfl, hb10⟩)
      have hR := HR9.out.call hb10
      clear f0 f1 f3
      go_wp2_with (first | (refine wpList_load_rws rfl _ _ (by rfl) (by exact hR) g8 rfl (dvC ⟨0, T, false, inner, .nil⟩ none 0) _ (by repeat (first | exact List.Mem.head _ | refine List.Mem.tail _ ?_)) _ Tryz.underlying24 rfl (by kernel_rfl) ?_) | (refine wpList_store_rws rfl _ _ _ (by rfl) (by exact hR) g4 rfl (dvC ⟨0, T, false, inner, .nil⟩ none 0) (by rfl) _ _ _ (by repeat (first | exact Pick.here | apply Pick.there)) (by kernel_rfl) (by rfl) (dv_one _ _ _) ?_; intro w11 hR))
      have HR := Lib.hid hR
      refine bodyPost_rws2 rfl HR.out g4 rfl _ _ (List.Mem.head _) _ Tryz.underlying24 rfl (by kernel_rfl) _ rfl rfl (fun hbz => ?_)
      rw [HX2.out]
      exact Or.inl ⟨rfl, ⟨none, 0, rfl, SlQ.nil _ _, OwnD.nil _ _⟩, (by show inner.length ≤ SB; omega), ⟨q + m, ⟨by rw [hbz.block c hlt]; exact heap_row HC.out.1, hc7.2⟩, HMO.out⟩, Bes.of0 hbz⟩
    | false =>
      have HX2 : Hid (rdS h (s.drop p) = (61, .zero, [])) := Lib.hid (by rw [HX.out, if_pos ⟨rfl, hf⟩])
      rw [hf] at HBYB
      clear hf
      go_upto_region 18 with (go_at_call 66; refine (HBYB.out _ HR9.out.below).mono ?_; rintro e w10 ⟨rfl, hb10⟩)
      have hR := HR9.out.call hb10
      clear f0 f1 f3
      go_wp2_with (first | (refine wpList_load_rws rfl _ _ (by rfl) (by exact hR) g8 rfl (dvC ⟨0, T, false, inner, .nil⟩ none 0) _ (by repeat (first | exact List.Mem.head _ | refine List.Mem.tail _ ?_)) _ Tryz.underlying24 rfl (by kernel_rfl) ?_) | (refine wpList_store_rws rfl _ _ _ (by rfl) (by exact hR) g4 rfl (dvC ⟨0, T, false, inner, .nil⟩ none 0) (by rfl) _ _ _ (by repeat (first | exact Pick.here | apply Pick.there)) (by kernel_rfl) (by rfl) (dv_one _ _ _) ?_; intro w11 hR))
      have HR := Lib.hid hR
      refine bodyPost_rws2 rfl HR.out g4 rfl _ _ (List.Mem.head _) _ Tryz.underlying24 rfl (by kernel_rfl) _ rfl rfl (fun hbz => ?_)
      rw [HX2.out]
      exact Or.inr ⟨by decide, ⟨⟨0, T, false, inner, .nil⟩, none, 0, _, rfl, 0, ErrV.wrong⟩, ⟨q + m, by rw [hbz.block c hlt]; exact heap_row HC.out.1, hc7.2⟩, Bes.of0 hbz⟩
  · have hcz : (C == 0) = false := by simpa using hc
    have HX2 : Hid (rdS h (s.drop p) = (0, ⟨C, T, false, inner, .nil⟩, more)) := Lib.hid (by rw [HX.out, if_neg (fun hh => hc hh.1)])
    clear hc
    go_upto_region 18 with fail
    have hR := HR9.out
    clear f0 f1 f3
    go_wp2_with (first | (refine wpList_load_rws rfl _ _ (by rfl) (by exact hR) g8 rfl (dvC ⟨C, T, false, inner, .nil⟩ none 0) _ (by repeat (first | exact List.Mem.head _ | refine List.Mem.tail _ ?_)) _ Tryz.underlying24 rfl (by kernel_rfl) ?_) | (refine wpList_store_rws rfl _ _ _ (by rfl) (by exact hR) g4 rfl (dvC ⟨C, T, false, inner, .nil⟩ none 0) (by rfl) _ _ _ (by repeat (first | exact Pick.here | apply Pick.there)) (by kernel_rfl) (by rfl) (dv_one _ _ _) ?_; intro w11 hR))
    have HR := Lib.hid hR
    refine bodyPost_rws2 rfl HR.out g4 rfl _ _ (List.Mem.head _) _ Tryz.underlying24 rfl (by kernel_rfl) _ rfl rfl (fun hbz => ?_)
    rw [HX2.out]
    exact Or.inl ⟨rfl, ⟨none, 0, rfl, SlQ.nil _ _, OwnD.nil _ _⟩, (by show inner.length ≤ SB; omega), ⟨q + m, ⟨by rw [hbz.block c hlt]; exact heap_row HC.out.1, hc7.2⟩, HMO.out⟩, Bes.of0 hbz⟩
end Go.Proofs.YtebhiplcoioenaaGreatDoor
