/- ostiarylaw20.turned: the walk. -/
import Derived.Test.YthpagppipifgeaaGreatDoorZLList
import Derived.Test.YthpagppipifgeaaGreatDoorZLF
import Derived.Test.YthpagppipifgeaaGreatDoorZLText2
import Derived.Maps.AppendAt
import Derived.Deep.RegionLaw
namespace Go.Proofs.YthpagppipifgeaaGreatDoor
open Go.RowKit

/-- A list of policies, turned about, each with its parts turned about. -/
def Fo.turn : Fo → Fo
  | .nil => .nil
  | .cons k o n t kids nx => nx.turn.snoc ⟨k, o, n, t, kids.turn⟩
theorem Fo.turn_len (F : Fo) : F.turn.len = F.len := by
  induction F with
  | nil => rfl
  | cons k o n t kids nx _ ih => simp only [Fo.turn, Fo.snoc_len, Fo.len, ih]
def Fo.dr : Fo → Nat → Fo
  | F, 0 => F
  | .nil, _ + 1 => .nil
  | .cons _ _ _ _ _ nx, i + 1 => nx.dr i
theorem Fo.dr_zero (F : Fo) : F.dr 0 = F := by cases F <;> rfl
theorem Fo.dr_len (F : Fo) : F.dr F.len = .nil := by
  induction F with
  | nil => rfl
  | cons k o n t kids nx _ ih => exact ih
/-- The policy at a place. -/
theorem Fo.pick : ∀ (F : Fo) (i : Nat), i < F.len → ∃ p : Po, F.dr i = .cons p.k p.o p.n p.t p.kids (F.dr (i + 1)) ∧ (∀ Q, F.All Q → Q p.kids) ∧ (∀ B, F.lens B → p.kids.len ≤ B ∧ p.kids.lens B)
    ∧ (∀ w b f, Row w F b f → ∃ ad c, w.cell? ⟨b, f + 5 * i, none⟩ = some (.int .i64 p.k) ∧ w.cell? ⟨b, f + 5 * i + 1, none⟩ = some (.int .i64 p.o) ∧ w.cell? ⟨b, f + 5 * i + 2, none⟩ = some (.string p.n)
      ∧ w.cell? ⟨b, f + 5 * i + 3, none⟩ = some (.string p.t) ∧ w.cell? ⟨b, f + 5 * i + 4, none⟩ = some (.slice ad p.kids.len c) ∧ p.n.size ≤ SB ∧ p.t.size ≤ SB ∧ SlF w p.kids ad c) := by
  intro F
  induction F with
  | nil => intro i hi; simp [Fo.len] at hi
  | cons k o n t kids nx _ ih =>
    intro i hi
    cases i with
    | zero =>
      refine ⟨⟨k, o, n, t, kids⟩, ?_, fun Q h => h.1, fun B h => ⟨h.1, h.2.1⟩, fun w b f hr => ?_⟩
      · show Fo.cons k o n t kids nx = .cons k o n t kids (nx.dr 0)
        rw [Fo.dr_zero]
      · obtain ⟨ad, c, h0, h1, h2, h3, h4, r1, r2, hs, _⟩ := hr.kids
        exact ⟨ad, c, h0, h1, h2, h3, h4, r1, r2, hs⟩
    | succ i =>
      obtain ⟨p, h1, h2, h3, h4⟩ := ih i (by simp only [Fo.len] at hi; omega)
      refine ⟨p, h1, fun Q h => h2 Q h.2, fun B h => h3 B h.2.2, fun w b f hr => ?_⟩
      obtain ⟨_, _, _, _, _, _, _, _, _, _, hn⟩ := hr.kids
      have := h4 w b (f + 5) hn
      rw [show f + 5 * (i + 1) = f + 5 + 5 * i by omega]
      exact this
theorem Rws.grownO {B : Nat} {w0 w w' : World} {L : List (Nat × Array Value × TypeId)} {ob : Option Nat} (h : Rws B w0 w L) (hg : w.grownBy w' ob) (hB : ∀ q, ob = some q → B ≤ q) (hn : ∀ x, x ∈ L → ob ≠ some x.1) : Rws B w0 w' L :=
  ⟨h.below.grown hg h.len hB, Nat.le_trans h.len hg.size, fun x hx => ⟨(h.row x hx).1, (hg.block x.1 (h.lt hx) (fun e => hn x hx e.symm)).trans (h.row x hx).2⟩, h.nd⟩
/-- The greatest length that came in. -/
def LB : Nat := reachBytes / 72
theorem LB_eq : LB = 1954687338211 := by decide
def TRet (p : Po) (w : World) : Ending → World → Prop := fun e w' => (∃ ad c, e = .returned (pv p.k p.o p.n p.t ad p.kids.len c) ∧ SlQ (fun k => w.heap.size ≤ k) w' p.kids ad c) ∧ Below w.heap.size w w'
def TurnAt (F : Fo) : Prop := ∀ (k o : Int) (n t : ByteArray) (ad : Option Addr) (c : Nat) (w : World), n.size ≤ SB → t.size ≤ SB → F.len ≤ LB → F.lens LB → SlF w F ad c →
  Calls Tryz.prog 24 #[pv k o n t ad F.len c] w (TRet ⟨k, o, n, t, F.turn⟩ w)
theorem turn_app {B : Nat} {w wr w1 : World} {g1 g2 g3 kk : Nat} {v : Value} {xs : List Value} {acc : Fo} {q : Po} {a2 : Option Addr} {c2 : Nat} {x1 x2 x3 : Array Value} {T : TypeId}
    (hR : Rws B w wr [(g3, x3, T), (g2, x2, T), (g1, x1, T)]) (hO : wr.ownsRow B 24 5 v kk xs) (hC : Chk (fun x => B ≤ x ∧ x ≠ g1 ∧ x ≠ g2 ∧ x ≠ g3 ∧ v.ownBlock ≠ some x) wr acc xs)
    (hN : v.ownBlock ≠ some g1 ∧ v.ownBlock ≠ some g2 ∧ v.ownBlock ≠ some g3) (hb : Below wr.heap.size wr w1) (hs : SlQ (fun k => wr.heap.size ≤ k) w1 q.kids a2 c2) (hqn : q.n.size ≤ SB) (hqt : q.t.size ≤ SB) (hk : kk + 1 ≤ LB) (ty : TypeId) :
    ∃ v' w2, (Builtin.append_ #[22, 22] ty #[v, .slice (some ⟨w1.heap.size, 0, none⟩) 1 1]).run Tryz.prog (w1.alloc (.cells #[.int .i64 q.k, .int .i64 q.o, .string q.n, .string q.t, .slice a2 q.kids.len c2] 24)) = .ok v' w2
      ∧ Rws B w w2 [(g3, x3, T), (g2, x2, T), (g1, x1, T)] ∧ w2.ownsRow B 24 5 v' (kk + 1) (xs ++ pcl q a2 c2) ∧ Chk (fun x => B ≤ x ∧ x ≠ g1 ∧ x ≠ g2 ∧ x ≠ g3 ∧ v'.ownBlock ≠ some x) w2 (acc.snoc q) (xs ++ pcl q a2 c2)
      ∧ (v'.ownBlock ≠ some g1 ∧ v'.ownBlock ≠ some g2 ∧ v'.ownBlock ≠ some g3) := by
  have hLB := LB_eq
  obtain ⟨i0, hi, hz0, hz1, hz2⟩ := info_parts info_pol
  have hRl := hR.len
  have h3l := hR.lt (x := (g3, x3, T)) (List.Mem.head _)
  have h2l := hR.lt (x := (g2, x2, T)) (List.Mem.tail _ (List.Mem.head _))
  have h1l := hR.lt (x := (g1, x1, T)) (List.Mem.tail _ (List.Mem.tail _ (List.Mem.head _)))
  simp only at h1l h2l h3l
  have hbs := hb.size
  have hO1 : w1.ownsRow B 24 5 v kk xs := own_below hO hb
  have hal := hO1.alloc (.cells #[.int .i64 q.k, .int .i64 q.o, .string q.n, .string q.t, .slice a2 q.kids.len c2] 24)
  have hnew := heap_alloc_new w1 (.cells #[.int .i64 q.k, .int .i64 q.o, .string q.n, .string q.t, .slice a2 q.kids.len c2] 24)
  obtain ⟨v', w2, hr, hown, hgr, _, hat⟩ := run_append_own_at (P := Tryz.prog) (w1.alloc (.cells #[.int .i64 q.k, .int .i64 q.o, .string q.n, .string q.t, .slice a2 q.kids.len c2] 24)) B 22 ty 24 i0 (.agg zP) 5 72 Tryz.underlying22 hi hz0 hz1 hz2 rfl (by omega) v kk xs hal ⟨w1.heap.size, 0, none⟩ 1 1 (pcl q a2 c2) rfl (fun j u hj => by
      rw [Addr.add_lit, Nat.zero_add]
      simp only [World.cell?, hnew]
      rw [if_neg (by simp)]
      simpa [pcl] using hj) (fun u hu => by simp [pcl] at hu; rcases hu with rfl | rfl | rfl | rfl | rfl <;> rfl) (by unfold maxLen; omega) (by omega) (by simp; omega)
  have hA7 : (w1.alloc (.cells #[.int .i64 q.k, .int .i64 q.o, .string q.n, .string q.t, .slice a2 q.kids.len c2] 24)).heap.size = w1.heap.size + 1 := by simp
  have hvl : ∀ x, v.ownBlock = some x → B ≤ x ∧ x < wr.heap.size := fun x hx => hO.lt x hx
  have hsame : ∀ k, v.ownBlock ≠ some k → k < w1.heap.size → w2.heap[k]? = w1.heap[k]? := fun k hn hk =>
    (hgr.block k (by omega) (fun e => hn e.symm)).trans ((b_alloc w1 _).block k hk)
  have hnb : ∀ x, x < w1.heap.size → v.ownBlock ≠ some x → v'.ownBlock ≠ some x := by
    intro x hx hn
    rcases hat with h | h
    · rw [h]; exact hn
    · rw [h, hA7]; intro e; have := Option.some.inj e; omega
  refine ⟨v', w2, hr, ?_, hown, ?_, hnb g1 (by omega) hN.1, hnb g2 (by omega) hN.2.1, hnb g3 (by omega) hN.2.2⟩
  · refine ((hR.call hb).alloc0 _).grownO hgr (fun x hx => (hvl x hx).1) fun x hx => ?_
    simp only [List.mem_cons, List.not_mem_nil, or_false] at hx
    rcases hx with rfl | rfl | rfl
    · exact hN.2.2
    · exact hN.2.1
    · exact hN.1
  · have hs2 : SlQ (fun x => B ≤ x ∧ x ≠ g1 ∧ x ≠ g2 ∧ x ≠ g3 ∧ v'.ownBlock ≠ some x) w2 q.kids a2 c2 := hs.same (fun k hk hlt => ⟨by omega, by omega, by omega, by omega, hnb k hlt (fun e => by have := (hvl k e).2; omega)⟩) (fun k hk hlt => hsame k (fun e => by have := (hvl k e).2; omega) hlt)
    have hc2 : Chk (fun x => B ≤ x ∧ x ≠ g1 ∧ x ≠ g2 ∧ x ≠ g3 ∧ v'.ownBlock ≠ some x) w2 acc xs := hC.same (fun k hk hlt => ⟨hk.1, hk.2.1, hk.2.2.1, hk.2.2.2.1, hnb k (by omega) hk.2.2.2.2⟩) (fun k hk hlt => (hsame k hk.2.2.2.2 (by omega)).trans (hb.block k hlt))
    exact Chk.snoc hqn hqt hs2 hc2
/-- The same at a step of a region that draws its order. -/
theorem step_turn {B : Nat} {w wr w1 : World} {g1 g2 g3 kk : Nat} {v : Value} {xs : List Value} {acc : Fo} {q : Po} {a2 : Option Addr} {c2 : Nat} {x1 x2 x3 : Array Value} {T : TypeId}
    {ops : Array Oper} {o : Oper} {a : Act} {K : Act → World → Prop} {Q : Exit → Act → World → Prop} {E : Prop} (hgd : o.guard = none) (s x : Operand) (ho : o.op = .call { callee := .builtin .append, args := #[s, x], argTypes := #[22, 22] })
    (hsv : a.eval s = v) (hxv : a.eval x = .slice (some ⟨w1.heap.size, 0, none⟩) 1 1)
    (hR : Rws B w wr [(g3, x3, T), (g2, x2, T), (g1, x1, T)]) (hO : wr.ownsRow B 24 5 v kk xs) (hC : Chk (fun x => B ≤ x ∧ x ≠ g1 ∧ x ≠ g2 ∧ x ≠ g3 ∧ v.ownBlock ≠ some x) wr acc xs)
    (hN : v.ownBlock ≠ some g1 ∧ v.ownBlock ≠ some g2 ∧ v.ownBlock ≠ some g3) (hb : Below wr.heap.size wr w1) (hs : SlQ (fun k => wr.heap.size ≤ k) w1 q.kids a2 c2) (hqn : q.n.size ≤ SB) (hqt : q.t.size ≤ SB) (hk : kk + 1 ≤ LB)
    (h : ∀ (gl cap : Nat) v' w2, v' = .slice (some ⟨gl, 0, none⟩) (kk + 1) cap → Rws B w w2 [(g3, x3, T), (g2, x2, T), (g1, x1, T)] → w2.ownsRow B 24 5 v' (kk + 1) (xs ++ pcl q a2 c2) → Chk (fun x => B ≤ x ∧ x ≠ g1 ∧ x ≠ g2 ∧ x ≠ g3 ∧ v'.ownBlock ≠ some x) w2 (acc.snoc q) (xs ++ pcl q a2 c2)
      → (v'.ownBlock ≠ some g1 ∧ v'.ownBlock ≠ some g2 ∧ v'.ownBlock ≠ some g3) → K (a.put o.dst v') w2) :
    if Region.wanted o (yielded ops a.tmps) = true then Oper.wp Tryz.prog o a (w1.alloc (.cells #[.int .i64 q.k, .int .i64 q.o, .string q.n, .string q.t, .slice a2 q.kids.len c2] 24)) K Q else E := by
  have hw : Region.wanted o (yielded ops a.tmps) = true := by simp [Region.wanted, hgd]
  rw [if_pos hw]
  obtain ⟨v', w2, hr, h2, h3, h4, h5⟩ := turn_app hR hO hC hN hb hs hqn hqt hk o.type
  unfold Oper.wp execOp
  simp only [ho, resolve, invoke, builtin, Sem.run_bind, Sem.run_pure, Result.andThen_ok, List.map_toArray, List.map_cons, List.map_nil, hsv, hxv, hr]
  obtain ⟨gl, cap, hv⟩ : ∃ gl cap, v' = .slice (some ⟨gl, 0, none⟩) (kk + 1) cap := by
    obtain ⟨_, ⟨_, h0⟩ | ⟨gl, cap, cur, hv, _⟩⟩ := id h3
    · omega
    · exact ⟨gl, cap, hv⟩
  exact h gl cap v' w2 hv h2 h3 h4 h5
set_option maxRecDepth 100000 in
set_option maxHeartbeats 4000000 in
theorem turn_step (F : Fo) (h : F.All TurnAt) : TurnAt F := by
  intro k o n t ad c w hn ht hl hls hs
  have hLB := LB_eq
  have hMX := MX_eq
  obtain ⟨i0, hi, hz0, hz1, hz2⟩ := info_parts info_pol
  obtain ⟨hle, hcm, b, f, had, hrow⟩ := hs
  have hR := Rws.start w
  go_enter Tryz.func24, Tryz.ntmps24
  go_upto_region 1 with (first
    | (refine wpList_box_rws rfl _ _ (by rfl) (by assumption) #[.int .i64 k, .int .i64 o, .string n, .string t, .slice ad F.len c] rfl ?_; intro g1 w1 hR)
    | (refine wQ_alloc (cs := zP) rfl _ (by rfl) (by assumption) zero_pol ?_; intro g2 w2 hR hbg2 hg2))
  go_upto_region 3 with (first
    | (refine wQ_alloc (cs := zP) rfl _ (by rfl) (by assumption) zero_pol ?_; intro g3 w3 hR hbg3 hg3)
    | (refine wpList_load_rws rfl _ _ (by rfl) (by assumption) _ rfl _ _ (by repeat (first | exact List.Mem.head _ | refine List.Mem.tail _ ?_)) _ Tryz.underlying24 rfl (by kernel_rfl) ?_)
    | (refine wQ_store rfl _ _ _ (by rfl) (by assumption) _ rfl #[.int .i64 k, .int .i64 o, .string n, .string t, .slice ad F.len c] (by rfl) _ _ _ (by repeat (first | exact Pick.here | apply Pick.there)) (by kernel_rfl) (by kernel_rfl) (by kernel_rfl) ?_; intro w4 hR hsm hsz; clear hsm hsz)
    | (refine wR_storec rfl (by rfl) (by assumption) (by rfl) (by rfl) Pick.here rfl (by kernel_rfl) (by simp) rfl rfl ?_; intro w5 hR))
  have hnd : g3 ≠ g2 ∧ g3 ≠ g1 ∧ g2 ≠ g1 := by
    have h := hR.nd
    simp only [List.pairwise_cons, List.mem_cons, forall_eq_or_imp, List.not_mem_nil] at h
    refine ⟨?_, ?_, ?_⟩ <;> simp_all
  have hB5 := hR.len
  have hg1l := hR.lt (x := (g1, #[.int .i64 k, .int .i64 o, .string n, .string t, .slice ad F.len c], 24)) (by repeat (first | exact List.Mem.head _ | refine List.Mem.tail _ ?_))
  have hg2l := hR.lt (x := (g2, zP, 24)) (by repeat (first | exact List.Mem.head _ | refine List.Mem.tail _ ?_))
  have hg3l := hR.lt (List.Mem.head _)
  have hge : w.heap.size ≤ g1 ∧ w.heap.size ≤ g2 ∧ w.heap.size ≤ g3 := ⟨(hR.row (g1, #[.int .i64 k, .int .i64 o, .string n, .string t, .slice ad F.len c], 24) (by repeat (first | exact List.Mem.head _ | refine List.Mem.tail _ ?_))).1, (hR.row (g2, zP, 24) (by repeat (first | exact List.Mem.head _ | refine List.Mem.tail _ ?_))).1, (hR.row _ (List.Mem.head _)).1⟩
  have p4 := hR.cellAt (g := g1) (by repeat (first | exact List.Mem.head _ | refine List.Mem.tail _ ?_)) 4 rfl
  clear hbg2 hg2 hbg3 hg3
  go_upto_region 4 with fail
  go_loopg [4] F.len (fun gg s4 wr => ∃ (kk : Nat) (acc : Fo) (v : Value) (xs : List Value), kk + gg = F.len ∧ s4 = .int .i64 ((F.len : Int) - 1 - kk) ∧ acc.len = kk ∧ Aside (acc = (F.dr (F.len - kk)).turn)
    ∧ Aside (Rws w.heap.size w wr [(g3, #[.int .i64 k, .int .i64 o, .string n, .string t, v], 24), (g2, zP, 24), (g1, #[.int .i64 k, .int .i64 o, .string n, .string t, .slice ad F.len c], 24)])
    ∧ Aside (wr.ownsRow w.heap.size 24 5 v kk xs) ∧ Aside (Chk (fun x => w.heap.size ≤ x ∧ x ≠ g1 ∧ x ≠ g2 ∧ x ≠ g3 ∧ v.ownBlock ≠ some x) wr acc xs)
    ∧ Aside (v.ownBlock ≠ some g1 ∧ v.ownBlock ≠ some g2 ∧ v.ownBlock ≠ some g3))
  case atStart =>
    refine ⟨0, .nil, .slice none 0 0, [], by omega, by simp, rfl, ?_, hR, World.ownsRow_nil _ _ _ _, rfl, by simp [Value.ownBlock], by simp [Value.ownBlock], by simp [Value.ownBlock]⟩
    show Fo.nil = _
    rw [Nat.sub_zero, Fo.dr_len]; rfl
  case round =>
    obtain ⟨kk, acc, v, xs, hkk, rfl, hal, HA, HR, HO, HC, HN⟩ := hrel
    have hRr := HR.out
    have q0 := hRr.cellAt (g := g3) (by repeat (first | exact List.Mem.head _ | refine List.Mem.tail _ ?_)) 0 rfl
    have q1 := hRr.cellAt (g := g3) (by repeat (first | exact List.Mem.head _ | refine List.Mem.tail _ ?_)) 1 rfl
    have q2 := hRr.cellAt (g := g3) (by repeat (first | exact List.Mem.head _ | refine List.Mem.tail _ ?_)) 2 rfl
    have q3 := hRr.cellAt (g := g3) (by repeat (first | exact List.Mem.head _ | refine List.Mem.tail _ ?_)) 3 rfl
    have q4 := hRr.cellAt (g := g3) (by repeat (first | exact List.Mem.head _ | refine List.Mem.tail _ ?_)) 4 rfl
    have r4 := hRr.cellAt (g := g1) (by repeat (first | exact List.Mem.head _ | refine List.Mem.tail _ ?_)) 4 rfl
    clear p4 hR
    by_cases hlt : kk < F.len
    · obtain ⟨i, hi2⟩ : ∃ i, i + 1 + kk = F.len := ⟨F.len - 1 - kk, by omega⟩
      have hiz : (F.len : Int) - 1 - kk = (i : Int) := by omega
      rw [hiz]
      have hiF : (i : Int) < (F.len : Int) := by omega
      obtain ⟨p, hp1, hp2, hp3, hp4⟩ := F.pick i (by omega)
      obtain rfl : ad = some ⟨b, f, none⟩ := by rcases had with h | ⟨_, h⟩; exact h; omega
      obtain ⟨a1, c1, h0, h1, h2, h3, h4, z1, z2, hsl⟩ := hp4 wr b f (hrow.below hRr.below (Nat.le_refl _))
      rw [Nat.mul_comm 5 i] at h0 h1 h2 h3 h4
      obtain ⟨zl, zls⟩ := hp3 LB hls
      have HCT : Hid (∀ w1, Below wr.heap.size wr w1 → Calls Tryz.prog 24 #[pv p.k p.o p.n p.t a1 p.kids.len c1] w1 (TRet ⟨p.k, p.o, p.n, p.t, p.kids.turn⟩ w1)) := Lib.hid fun w1 hb => hp2 _ h p.k p.o p.n p.t a1 c1 w1 z1 z2 zl zls (hsl.grown hb)
      have hacc : acc.snoc ⟨p.k, p.o, p.n, p.t, p.kids.turn⟩ = (F.dr (F.len - (kk + 1))).turn := by
        rw [HA.out, show F.len - (kk + 1) = i by omega, hp1, show F.len - kk = i + 1 by omega]; rfl
      have HACC := Lib.hid hacc
      clear hp1 hp2 hp3 hp4 hsl hacc HA hiz
      have d4 : wr.drew.cell? ⟨g3, 4, none⟩ = some v := q4
      have hRd := hRr.drew
      go_upto_region 6 with fail
      go_region_law (first
          | (go_simp; go_at_call 24; refine (HCT.out _ ?_).mono ?_; exact (Below.refl _ wr).drew; rintro e w1 ⟨⟨a2, c2, rfl, hsl2⟩, hb2⟩; have hb2 := b_trans (Below.refl _ wr).drew hb2; have hR1 := hRr.call hb2; have e4 : w1.cell? ⟨g3, 4, none⟩ = some v := hR1.cellAt (g := g3) (List.Mem.head _) 4 rfl; have e5 : (w1.alloc (.cells #[.int .i64 p.k, .int .i64 p.o, .string p.n, .string p.t, .slice a2 p.kids.turn.len c2] 24)).cell? ⟨g3, 4, none⟩ = some v := (hR1.alloc0 _).cellAt (g := g3) (List.Mem.head _) 4 rfl)
          | (refine step_turn (q := ⟨p.k, p.o, p.n, p.t, p.kids.turn⟩) rfl _ _ (by rfl) (by rfl) (by rfl) hRr HO.out HC.out HN.out hb2 hsl2 z1 z2 (by omega) ?_; intro gl cap v' w2 hv hR2 hO2 hC2 hN2; subst hv; have HO2 := Lib.hid (And.intro hO2 (And.intro hC2 hN2)); clear hO2 hC2 hN2; have f4 : w2.cell? ⟨g3, 4, none⟩ = some v := hR2.cellAt (g := g3) (List.Mem.head _) 4 rfl; have t4 : w2.frozen? ⟨g3, 4, none⟩ = false := hR2.thaw (g := g3) (List.Mem.head _) 4))
      all_goals
        have hR3 := hR2.setc 4 (.slice (some ⟨gl, 0, none⟩) (kk + 1) cap)
        have HF : Hid (_ ∧ _ ∧ _ ∧ _) := Lib.hid ⟨hR3, ownsRow_setCell_other (a := ⟨g3, 4, none⟩) HO2.out.1 HO2.out.2.2.2.2 (.slice (some ⟨gl, 0, none⟩) (kk + 1) cap), HO2.out.2.1.same (Q' := fun x => w.heap.size ≤ x ∧ x ≠ g1 ∧ x ≠ g2 ∧ x ≠ g3 ∧ (Value.slice (some ⟨gl, 0, none⟩) (kk + 1) cap).ownBlock ≠ some x) (w' := w2.setCell ⟨g3, 4, none⟩ (.slice (some ⟨gl, 0, none⟩) (kk + 1) cap)) (fun _ hq _ => hq) (fun x hq _ => heap_setCell_other w2 ⟨g3, 4, none⟩ x _ hq.2.2.2.1), HO2.out.2.2⟩
        clear hR3 f4 t4 e4 e5 hR1 hR2 hb2 hsl2
        go_wp2_with fail
        go_roundg (F.len - (kk + 1))
        case measure => omega
        case rel =>
          obtain ⟨y1, y2, y3, y4⟩ := HF.out
          exact ⟨kk + 1, acc.snoc ⟨p.k, p.o, p.n, p.t, p.kids.turn⟩, _, _, by omega, by go_num, by rw [Fo.snoc_len, hal], HACC.out, y1, y2, y3, y4⟩
    · obtain rfl : kk = F.len := by omega
      have hfin : acc = F.turn := by rw [HA.out, Nat.sub_self, Fo.dr_zero]
      subst hfin
      have hFl := F.turn_len
      have hz : ¬ (0 : Int) ≤ (F.len : Int) - 1 - (F.len : Int) := by omega
      have hck := HC.out.same (Q' := fun x => w.heap.size ≤ x ∧ x ≠ g2) (w' := wr) (fun x hx _ => ⟨hx.1, hx.2.2.1⟩) (fun _ _ _ => rfl)
      obtain ⟨ad', c', hv, hsq⟩ := Chk.slq (v := v) hck (by rw [hFl]; exact HO.out) (fun g c hv => by
        have hx : v.ownBlock = some g := by rw [hv]; rfl
        exact ⟨(HO.out.lt g hx).1, fun e => HN.out.2.1 (by rw [hx, e])⟩)
      subst hv
      have HSQ := Lib.hid hsq
      clear hck hsq HC HO HN HA hFl hal q0 q1 q2 q3 q4 r4 h hrow had
      go_wp2_with (first
        | (refine wpList_load_rws rfl _ _ (by rfl) (by assumption) _ rfl _ _ (by repeat (first | exact List.Mem.head _ | refine List.Mem.tail _ ?_)) _ Tryz.underlying24 rfl (by kernel_rfl) ?_)
        | (refine wQ_store rfl _ _ _ (by rfl) (by assumption) _ rfl #[.int .i64 k, .int .i64 o, .string n, .string t, .slice ad' F.turn.len c'] (by rfl) _ _ _ (by repeat (first | exact Pick.here | apply Pick.there)) (by kernel_rfl) (by kernel_rfl) (by kernel_rfl) ?_; intro w7 hR hsm hsz))
      refine bodyPost_rws rfl (by assumption) g2 rfl _ _ (List.Mem.head _) _ Tryz.underlying24 rfl (by kernel_rfl) rfl (fun hbz => ?_)
      exact ⟨⟨ad', c', rfl, HSQ.out.same (fun _ hx _ => hx.1) (fun x hx _ => hsm x hx.2)⟩, hbz⟩
theorem turn_any (F : Fo) : TurnAt F := Fo.rec_all turn_step F
end Go.Proofs.YthpagppipifgeaaGreatDoor
