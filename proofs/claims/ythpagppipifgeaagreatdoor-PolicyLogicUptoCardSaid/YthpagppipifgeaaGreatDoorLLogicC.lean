/- The closures of PolicyLogic: not, and, or. -/
import Derived.Test.YthpagppipifgeaaGreatDoorLLogicS
namespace Go.Proofs.YthpagppipifgeaaGreatDoor
open Go.RowKit

theorem row_cons {w : World} {b f : Nat} {k o : Int} {n t : ByteArray} {kids nx : Fo} {ad : Option Addr} {c : Nat} (h0 : w.cell? ⟨b, f, none⟩ = some (.int .i64 k)) (h1 : w.cell? ⟨b, f + 1, none⟩ = some (.int .i64 o)) (h2 : w.cell? ⟨b, f + 2, none⟩ = some (.string n))
    (h3 : w.cell? ⟨b, f + 3, none⟩ = some (.string t)) (h4 : w.cell? ⟨b, f + 4, none⟩ = some (.slice ad kids.len c)) (hn : n.size ≤ SB) (ht : t.size ≤ SB) (hs : SlF w kids ad c) (hr : Row w nx b (f + 5)) : Row w (.cons k o n t kids nx) b f := by
  obtain ⟨s1, s2, b1, f1, s3, s4⟩ := hs
  exact ⟨⟨ad, c, b1, f1, h0, h1, h2, h3, h4, hn, ht, s1, s2, s3, s4⟩, hr⟩
/-- What a closure answers: a policy of that kind, of so many parts. -/
def NRet (k : Int) (l : Nat) (F : Fo) (w : World) : Ending → World → Prop := fun e w' => (∃ ad c, e = .returned (pv k 0 e0 e0 ad l c) ∧ SlF w' F ad c) ∧ Below w.heap.size w w'
set_option maxRecDepth 100000 in
set_option maxHeartbeats 1600000 in
theorem not_any (k1 o1 : Int) (n1 t1 : ByteArray) (F1 : Fo) (a1 : Option Addr) (c1 : Nat) (w : World) (hn1 : n1.size ≤ SB) (ht1 : t1.size ≤ SB) (hs1 : SlF w F1 a1 c1) :
    Calls Tryz.prog 19 #[pv k1 o1 n1 t1 a1 F1.len c1] w (NRet 1 1 (.cons k1 o1 n1 t1 F1 .nil) w) := by
  have hR := Rws.start w
  go_enter Tryz.func19, Tryz.ntmps19
  go_upto_region 1 with (first
    | (refine wpList_box_rws rfl _ _ (by rfl) (by assumption) #[.int .i64 k1, .int .i64 o1, .string n1, .string t1, .slice a1 F1.len c1] rfl ?_; intro g1 w1 hR)
    | (refine wQ_alloc (cs := zP) rfl _ (by rfl) (by assumption) zero_pol ?_; intro gr w2 hR hbggr hgr))
  go_wp2_with (first
    | (refine wpList_load_rws rfl _ _ (by rfl) (by assumption) _ rfl _ _ (by repeat (first | exact List.Mem.head _ | refine List.Mem.tail _ ?_)) _ Tryz.underlying24 rfl (by kernel_rfl) ?_)
    | (refine wQ_store rfl _ _ _ (by rfl) (by exact hR.alloc _ _) _ rfl #[.int .i64 1, .int .i64 0, .string ⟨#[]⟩, .string ⟨#[]⟩, .slice (some ⟨w2.heap.size, 0, none⟩) 1 1] (by rfl) _ _ _ (by repeat (first | exact Pick.here | apply Pick.there)) (by kernel_rfl) (by kernel_rfl) (by kernel_rfl) ?_; intro w3 hR hsm hsz))
  refine bodyPost_rws rfl (by assumption) gr rfl _ _ (List.Mem.head _) _ Tryz.underlying24 rfl (by kernel_rfl) rfl (fun hbz => ?_)
  refine ⟨⟨_, 1, rfl, Nat.le_refl _, (show 1 ≤ MX by decide), w2.heap.size, 0, Or.inl rfl, ?_⟩, hbz⟩
  exact row_cons (hR.cellAt (g := w2.heap.size) (by repeat (first | exact List.Mem.head _ | refine List.Mem.tail _ ?_)) 0 rfl) (hR.cellAt (g := w2.heap.size) (by repeat (first | exact List.Mem.head _ | refine List.Mem.tail _ ?_)) 1 rfl) (hR.cellAt (g := w2.heap.size) (by repeat (first | exact List.Mem.head _ | refine List.Mem.tail _ ?_)) 2 rfl) (hR.cellAt (g := w2.heap.size) (by repeat (first | exact List.Mem.head _ | refine List.Mem.tail _ ?_)) 3 rfl) (hR.cellAt (g := w2.heap.size) (by repeat (first | exact List.Mem.head _ | refine List.Mem.tail _ ?_)) 4 rfl) hn1 ht1 (hs1.grown hbz) trivial
set_option maxRecDepth 100000 in
set_option maxHeartbeats 1600000 in
theorem and_any (k1 o1 : Int) (n1 t1 : ByteArray) (F1 : Fo) (a1 : Option Addr) (c1 : Nat) (k2 o2 : Int) (n2 t2 : ByteArray) (F2 : Fo) (a2 : Option Addr) (c2 : Nat) (w : World) (hn1 : n1.size ≤ SB) (ht1 : t1.size ≤ SB) (hs1 : SlF w F1 a1 c1) (hn2 : n2.size ≤ SB) (ht2 : t2.size ≤ SB) (hs2 : SlF w F2 a2 c2) :
    Calls Tryz.prog 20 #[pv k1 o1 n1 t1 a1 F1.len c1, pv k2 o2 n2 t2 a2 F2.len c2] w (NRet 2 2 (.cons k1 o1 n1 t1 F1 (.cons k2 o2 n2 t2 F2 .nil)) w) := by
  have hR := Rws.start w
  go_enter Tryz.func20, Tryz.ntmps20
  go_upto_region 1 with (first
    | (refine wpList_box_rws rfl _ _ (by rfl) (by assumption) #[.int .i64 k1, .int .i64 o1, .string n1, .string t1, .slice a1 F1.len c1] rfl ?_; intro g1 w1 hR)
    | (refine wpList_box_rws rfl _ _ (by rfl) (by assumption) #[.int .i64 k2, .int .i64 o2, .string n2, .string t2, .slice a2 F2.len c2] rfl ?_; intro g2 w2 hR)
    | (refine wQ_alloc (cs := zP) rfl _ (by rfl) (by assumption) zero_pol ?_; intro gr w3 hR hbggr hgr))
  go_wp2_with (first
    | (refine wpList_load_rws rfl _ _ (by rfl) (by assumption) _ rfl _ _ (by repeat (first | exact List.Mem.head _ | refine List.Mem.tail _ ?_)) _ Tryz.underlying24 rfl (by kernel_rfl) ?_)
    | (refine wQ_store rfl _ _ _ (by rfl) (by exact hR.alloc _ _) _ rfl #[.int .i64 2, .int .i64 0, .string ⟨#[]⟩, .string ⟨#[]⟩, .slice (some ⟨w3.heap.size, 0, none⟩) 2 2] (by rfl) _ _ _ (by repeat (first | exact Pick.here | apply Pick.there)) (by kernel_rfl) (by kernel_rfl) (by kernel_rfl) ?_; intro w4 hR hsm hsz))
  refine bodyPost_rws rfl (by assumption) gr rfl _ _ (List.Mem.head _) _ Tryz.underlying24 rfl (by kernel_rfl) rfl (fun hbz => ?_)
  refine ⟨⟨_, 2, rfl, Nat.le_refl _, (show 2 ≤ MX by decide), w3.heap.size, 0, Or.inl rfl, ?_⟩, hbz⟩
  refine row_cons (hR.cellAt (g := w3.heap.size) (by repeat (first | exact List.Mem.head _ | refine List.Mem.tail _ ?_)) 0 rfl) (hR.cellAt (g := w3.heap.size) (by repeat (first | exact List.Mem.head _ | refine List.Mem.tail _ ?_)) 1 rfl) (hR.cellAt (g := w3.heap.size) (by repeat (first | exact List.Mem.head _ | refine List.Mem.tail _ ?_)) 2 rfl) (hR.cellAt (g := w3.heap.size) (by repeat (first | exact List.Mem.head _ | refine List.Mem.tail _ ?_)) 3 rfl) (hR.cellAt (g := w3.heap.size) (by repeat (first | exact List.Mem.head _ | refine List.Mem.tail _ ?_)) 4 rfl) hn1 ht1 (hs1.grown hbz) ?_
  exact row_cons (hR.cellAt (g := w3.heap.size) (by repeat (first | exact List.Mem.head _ | refine List.Mem.tail _ ?_)) 5 rfl) (hR.cellAt (g := w3.heap.size) (by repeat (first | exact List.Mem.head _ | refine List.Mem.tail _ ?_)) 6 rfl) (hR.cellAt (g := w3.heap.size) (by repeat (first | exact List.Mem.head _ | refine List.Mem.tail _ ?_)) 7 rfl) (hR.cellAt (g := w3.heap.size) (by repeat (first | exact List.Mem.head _ | refine List.Mem.tail _ ?_)) 8 rfl) (hR.cellAt (g := w3.heap.size) (by repeat (first | exact List.Mem.head _ | refine List.Mem.tail _ ?_)) 9 rfl) hn2 ht2 (hs2.grown hbz) trivial
set_option maxRecDepth 100000 in
set_option maxHeartbeats 1600000 in
theorem or_any (k1 o1 : Int) (n1 t1 : ByteArray) (F1 : Fo) (a1 : Option Addr) (c1 : Nat) (k2 o2 : Int) (n2 t2 : ByteArray) (F2 : Fo) (a2 : Option Addr) (c2 : Nat) (w : World) (hn1 : n1.size ≤ SB) (ht1 : t1.size ≤ SB) (hs1 : SlF w F1 a1 c1) (hn2 : n2.size ≤ SB) (ht2 : t2.size ≤ SB) (hs2 : SlF w F2 a2 c2) :
    Calls Tryz.prog 21 #[pv k1 o1 n1 t1 a1 F1.len c1, pv k2 o2 n2 t2 a2 F2.len c2] w (NRet 3 2 (.cons k1 o1 n1 t1 F1 (.cons k2 o2 n2 t2 F2 .nil)) w) := by
  have hR := Rws.start w
  go_enter Tryz.func21, Tryz.ntmps21
  go_upto_region 1 with (first
    | (refine wpList_box_rws rfl _ _ (by rfl) (by assumption) #[.int .i64 k1, .int .i64 o1, .string n1, .string t1, .slice a1 F1.len c1] rfl ?_; intro g1 w1 hR)
    | (refine wpList_box_rws rfl _ _ (by rfl) (by assumption) #[.int .i64 k2, .int .i64 o2, .string n2, .string t2, .slice a2 F2.len c2] rfl ?_; intro g2 w2 hR)
    | (refine wQ_alloc (cs := zP) rfl _ (by rfl) (by assumption) zero_pol ?_; intro gr w3 hR hbggr hgr))
  go_wp2_with (first
    | (refine wpList_load_rws rfl _ _ (by rfl) (by assumption) _ rfl _ _ (by repeat (first | exact List.Mem.head _ | refine List.Mem.tail _ ?_)) _ Tryz.underlying24 rfl (by kernel_rfl) ?_)
    | (refine wQ_store rfl _ _ _ (by rfl) (by exact hR.alloc _ _) _ rfl #[.int .i64 3, .int .i64 0, .string ⟨#[]⟩, .string ⟨#[]⟩, .slice (some ⟨w3.heap.size, 0, none⟩) 2 2] (by rfl) _ _ _ (by repeat (first | exact Pick.here | apply Pick.there)) (by kernel_rfl) (by kernel_rfl) (by kernel_rfl) ?_; intro w4 hR hsm hsz))
  refine bodyPost_rws rfl (by assumption) gr rfl _ _ (List.Mem.head _) _ Tryz.underlying24 rfl (by kernel_rfl) rfl (fun hbz => ?_)
  refine ⟨⟨_, 2, rfl, Nat.le_refl _, (show 2 ≤ MX by decide), w3.heap.size, 0, Or.inl rfl, ?_⟩, hbz⟩
  refine row_cons (hR.cellAt (g := w3.heap.size) (by repeat (first | exact List.Mem.head _ | refine List.Mem.tail _ ?_)) 0 rfl) (hR.cellAt (g := w3.heap.size) (by repeat (first | exact List.Mem.head _ | refine List.Mem.tail _ ?_)) 1 rfl) (hR.cellAt (g := w3.heap.size) (by repeat (first | exact List.Mem.head _ | refine List.Mem.tail _ ?_)) 2 rfl) (hR.cellAt (g := w3.heap.size) (by repeat (first | exact List.Mem.head _ | refine List.Mem.tail _ ?_)) 3 rfl) (hR.cellAt (g := w3.heap.size) (by repeat (first | exact List.Mem.head _ | refine List.Mem.tail _ ?_)) 4 rfl) hn1 ht1 (hs1.grown hbz) ?_
  exact row_cons (hR.cellAt (g := w3.heap.size) (by repeat (first | exact List.Mem.head _ | refine List.Mem.tail _ ?_)) 5 rfl) (hR.cellAt (g := w3.heap.size) (by repeat (first | exact List.Mem.head _ | refine List.Mem.tail _ ?_)) 6 rfl) (hR.cellAt (g := w3.heap.size) (by repeat (first | exact List.Mem.head _ | refine List.Mem.tail _ ?_)) 7 rfl) (hR.cellAt (g := w3.heap.size) (by repeat (first | exact List.Mem.head _ | refine List.Mem.tail _ ?_)) 8 rfl) (hR.cellAt (g := w3.heap.size) (by repeat (first | exact List.Mem.head _ | refine List.Mem.tail _ ?_)) 9 rfl) hn2 ht2 (hs2.grown hbz) trivial
end Go.Proofs.YthpagppipifgeaaGreatDoor
