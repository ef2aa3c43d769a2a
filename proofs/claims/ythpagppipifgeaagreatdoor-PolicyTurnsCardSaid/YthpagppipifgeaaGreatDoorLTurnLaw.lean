/- PolicyTurns: the law's walk. -/
import Derived.Test.YthpagppipifgeaaGreatDoorLTurnS
import Derived.Test.YthpagppipifgeaaGreatDoorLFixed
namespace Go.Proofs.YthpagppipifgeaaGreatDoor.policyTurns
open Go.RowKit

set_option maxRecDepth 100000 in
set_option maxHeartbeats 4000000 in
theorem law_any (k o : Int) (n t : ByteArray) (ad : Option Addr) (c : Nat) (F : Fo) (x : Fx) (w : World) (hn : n.size ≤ SB) (ht : t.size ≤ SB) (hl : F.len ≤ LB) (hls : F.lens LB) (hs : SlF w F ad c) (hx : FxAt w x) :
    Calls Tryz.prog 8 #[pv k o n t ad F.len c, x.v] w (RetB true w) := by
  have hR := Rws.start w
  have HT : Hid (∀ u, Below w.heap.size w u → Calls Tryz.prog 24 #[pv k o n t ad F.len c] u (TRet ⟨k, o, n, t, F.turn⟩ u)) := Lib.hid fun u hb => turn_any F k o n t ad c u hn ht hl hls (hs.grown hb)
  go_enter Tryz.func8, Tryz.ntmps8
  go_upto_region 1 with (first
    | (refine wpList_box_rws rfl _ _ (by rfl) (by assumption) #[.int .i64 k, .int .i64 o, .string n, .string t, .slice ad F.len c] rfl ?_; intro gp w1 hR)
    | (refine wpList_box_rws rfl _ _ (by rfl) (by assumption) #[.string x.m, .string x.p, .slice x.a1 x.cl.length x.c1, .slice x.a2 x.ce.length x.c2] rfl ?_; intro gf w2 hR))
  have hgl := hR.len
  have hpl := hR.lt (x := (gp, #[.int .i64 k, .int .i64 o, .string n, .string t, .slice ad F.len c], 24)) (by repeat (first | exact List.Mem.head _ | refine List.Mem.tail _ ?_))
  have hfl := hR.lt (List.Mem.head _)
  simp only at hpl hfl
  go_upto_region 2 with (first
    | (go_at_call 24; refine (HT.out _ hR.below).mono ?_; rintro e w3 ⟨⟨a2, c2, rfl, hsl⟩, hb3⟩; have hR := hR.call hb3)
    | (refine wpList_load_rws rfl _ _ (by rfl) (by assumption) _ rfl _ _ (by repeat (first | exact List.Mem.head _ | refine List.Mem.tail _ ?_)) _ Tryz.underlying24 rfl (by kernel_rfl) ?_)
    | (refine wQ_alloc (cs := zP) rfl _ (by rfl) (by assumption) zero_pol ?_; intro gq w4 hR hbq hgq)
    | (refine wQ_store rfl _ _ _ (by rfl) (by assumption) _ rfl #[.int .i64 k, .int .i64 o, .string n, .string t, .slice a2 F.turn.len c2] (by rfl) _ _ _ (by repeat (first | exact Pick.here | apply Pick.there)) (by kernel_rfl) (by kernel_rfl) (by kernel_rfl) ?_; intro w5 hR hsm hsz))
  have hsq : SlF w5 F.turn a2 c2 := (hsl.same (Q' := fun _ => True) (w' := w5) (fun _ _ _ => trivial) (fun z hz hlt => (hsm z (by have := hb3.size; omega)).trans (hbq.block z hlt))).slf
  have hs5 := hs.grown hR.below
  have hx5 := hx.below hR.below (Nat.le_refl _)
  have HC1 : Hid (∀ u, Below w5.heap.size w5 u → Calls Tryz.prog 11 #[pv k o n t ad F.len c] u (RetI (chkP k o n t F) u)) := Lib.hid fun u hb => Check_any k o n t F ad c u hn ht (hs5.grown hb)
  have HC2 : Hid (∀ u, Below w5.heap.size w5 u → Calls Tryz.prog 11 #[pv k o n t a2 F.turn.len c2] u (RetI (chkP k o n t F) u)) := Lib.hid fun u hb => by
    have h := Check_any k o n t F.turn a2 c2 u hn ht (hsq.grown hb)
    rw [turn_chk] at h
    exact h
  have HH1 : Hid (∀ u, Below w5.heap.size w5 u → Calls Tryz.prog 13 #[pv k o n t ad F.len c, x.v] u (RetB (holdsP x k o n t F) u)) := Lib.hid fun u hb => Holds_any k o n t F ad c x u hn ht (hs5.grown hb) (hx5.below hb (Nat.le_refl _))
  have HH2 : Hid (∀ u, Below w5.heap.size w5 u → Calls Tryz.prog 13 #[pv k o n t a2 F.turn.len c2, x.v] u (RetB (holdsP x k o n t F) u)) := Lib.hid fun u hb => by
    have h := Holds_any k o n t F.turn a2 c2 x u hn ht (hsq.grown hb) (hx5.below hb (Nat.le_refl _))
    rw [turn_holds] at h
    exact h
  have hSF : ∀ u, Below w5.heap.size w5 u → (u.cell? ⟨gp, 0, none⟩ = some (.int .i64 k) ∧ u.cell? ⟨gp, 1, none⟩ = some (.int .i64 o) ∧ u.cell? ⟨gp, 2, none⟩ = some (.string n) ∧ u.cell? ⟨gp, 3, none⟩ = some (.string t) ∧ u.cell? ⟨gp, 4, none⟩ = some (.slice ad F.len c)
      ∧ u.cell? ⟨gq, 0, none⟩ = some (.int .i64 k) ∧ u.cell? ⟨gq, 1, none⟩ = some (.int .i64 o) ∧ u.cell? ⟨gq, 2, none⟩ = some (.string n) ∧ u.cell? ⟨gq, 3, none⟩ = some (.string t) ∧ u.cell? ⟨gq, 4, none⟩ = some (.slice a2 F.turn.len c2)
      ∧ u.cell? ⟨gf, 0, none⟩ = some (.string x.m) ∧ u.cell? ⟨gf, 1, none⟩ = some (.string x.p) ∧ u.cell? ⟨gf, 2, none⟩ = some (.slice x.a1 x.cl.length x.c1) ∧ u.cell? ⟨gf, 3, none⟩ = some (.slice x.a2 x.ce.length x.c2)) := fun u hb => by
    have hU := hR.call hb
    exact ⟨hU.cellAt (g := gp) (by repeat (first | exact List.Mem.head _ | refine List.Mem.tail _ ?_)) 0 rfl, hU.cellAt (g := gp) (by repeat (first | exact List.Mem.head _ | refine List.Mem.tail _ ?_)) 1 rfl, hU.cellAt (g := gp) (by repeat (first | exact List.Mem.head _ | refine List.Mem.tail _ ?_)) 2 rfl, hU.cellAt (g := gp) (by repeat (first | exact List.Mem.head _ | refine List.Mem.tail _ ?_)) 3 rfl, hU.cellAt (g := gp) (by repeat (first | exact List.Mem.head _ | refine List.Mem.tail _ ?_)) 4 rfl,
      hU.cellAt (g := gq) (by repeat (first | exact List.Mem.head _ | refine List.Mem.tail _ ?_)) 0 rfl, hU.cellAt (g := gq) (by repeat (first | exact List.Mem.head _ | refine List.Mem.tail _ ?_)) 1 rfl, hU.cellAt (g := gq) (by repeat (first | exact List.Mem.head _ | refine List.Mem.tail _ ?_)) 2 rfl, hU.cellAt (g := gq) (by repeat (first | exact List.Mem.head _ | refine List.Mem.tail _ ?_)) 3 rfl, hU.cellAt (g := gq) (by repeat (first | exact List.Mem.head _ | refine List.Mem.tail _ ?_)) 4 rfl,
      hU.cellAt (g := gf) (by repeat (first | exact List.Mem.head _ | refine List.Mem.tail _ ?_)) 0 rfl, hU.cellAt (g := gf) (by repeat (first | exact List.Mem.head _ | refine List.Mem.tail _ ?_)) 1 rfl, hU.cellAt (g := gf) (by repeat (first | exact List.Mem.head _ | refine List.Mem.tail _ ?_)) 2 rfl, hU.cellAt (g := gf) (by repeat (first | exact List.Mem.head _ | refine List.Mem.tail _ ?_)) 3 rfl⟩
  have HSF := Lib.hid hSF
  have HB : Hid (Below w.heap.size w w5) := Lib.hid hR.below
  have hB0 : Below w5.heap.size w5 w5.drew := (Below.refl _ _).drew
  clear hSF hR hsq hs5 hx5 hs hx hsl hb3 hbq hgq hsm hsz HT hgl hpl hfl
  generalize chkP k o n t F = C at *
  generalize holdsP x k o n t F = a at *
  clear hl hls
  generalize F.turn.len = L2 at *
  generalize F.len = L1 at *
  have HC : Hid (∀ u a' l' c', Below w5.heap.size w5 u → ((a' = ad ∧ l' = L1 ∧ c' = c) ∨ (a' = a2 ∧ l' = L2 ∧ c' = c2)) → Calls Tryz.prog 11 #[pv k o n t a' l' c'] u (RetI C u)) := Lib.hid fun u a' l' c' hb h => by
    rcases h with ⟨rfl, rfl, rfl⟩ | ⟨rfl, rfl, rfl⟩
    · exact HC1.out u hb
    · exact HC2.out u hb
  have HH : Hid (∀ u a' l' c', Below w5.heap.size w5 u → ((a' = ad ∧ l' = L1 ∧ c' = c) ∨ (a' = a2 ∧ l' = L2 ∧ c' = c2)) → Calls Tryz.prog 13 #[pv k o n t a' l' c', x.v] u (RetB a u)) := Lib.hid fun u a' l' c' hb h => by
    rcases h with ⟨rfl, rfl, rfl⟩ | ⟨rfl, rfl, rfl⟩
    · exact HH1.out u hb
    · exact HH2.out u hb
  clear HC1 HC2 HH1 HH2
  go_region_held3 (fun u => u.cell? ⟨gp, 0, none⟩ = some (.int .i64 k) ∧ u.cell? ⟨gp, 1, none⟩ = some (.int .i64 o) ∧ u.cell? ⟨gp, 2, none⟩ = some (.string n) ∧ u.cell? ⟨gp, 3, none⟩ = some (.string t) ∧ u.cell? ⟨gp, 4, none⟩ = some (.slice ad L1 c)
      ∧ u.cell? ⟨gq, 0, none⟩ = some (.int .i64 k) ∧ u.cell? ⟨gq, 1, none⟩ = some (.int .i64 o) ∧ u.cell? ⟨gq, 2, none⟩ = some (.string n) ∧ u.cell? ⟨gq, 3, none⟩ = some (.string t) ∧ u.cell? ⟨gq, 4, none⟩ = some (.slice a2 L2 c2)
      ∧ u.cell? ⟨gf, 0, none⟩ = some (.string x.m) ∧ u.cell? ⟨gf, 1, none⟩ = some (.string x.p) ∧ u.cell? ⟨gf, 2, none⟩ = some (.slice x.a1 x.cl.length x.c1) ∧ u.cell? ⟨gf, 3, none⟩ = some (.slice x.a2 x.ce.length x.c2))
    (exact HSF.out _ hB0)
    (first
      | (go_at_call 11; refine (HC.out _ _ _ _ hB0 ?_).mono ?_; (first | exact Or.inl ⟨rfl, rfl, rfl⟩ | exact Or.inr ⟨rfl, rfl, rfl⟩); rintro e u ⟨rfl, hb⟩; have hB0 := b_trans hB0 hb)
      | (go_at_call 13; refine (HH.out _ _ _ _ hB0 ?_).mono ?_; (first | exact Or.inl ⟨rfl, rfl, rfl⟩ | exact Or.inr ⟨rfl, rfl, rfl⟩); rintro e u ⟨rfl, hb⟩; have hB0 := b_trans hB0 hb)
      | (go_at_call 15; refine (fixed_any _).mono ?_; rintro e u ⟨rfl, hb⟩; have hB0 := b_trans hB0 hb))
  all_goals
    go_wp2_with fail
    go_ret
    exact ⟨rfl, b_trans HB.out hB0⟩
end Go.Proofs.YthpagppipifgeaaGreatDoor.policyTurns
