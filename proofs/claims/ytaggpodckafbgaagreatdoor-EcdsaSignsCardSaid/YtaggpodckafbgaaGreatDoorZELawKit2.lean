/- What the laws take: multiples and sums of points. -/
import Derived.Test.YtaggpodckafbgaaGreatDoorZT2
namespace Go.Proofs.YtaggpodckafbgaaGreatDoor
open Go.RowKit

theorem nv_tn : nv ⟨tn.toArray⟩ = Ec.N := by rw [← out_N]; exact nv_pb (by decide)
theorem order_ok (w : World) : Calls Tryz.prog 21 #[] w fun e w' => e = .returned (.string ⟨tn.toArray⟩) ∧ Below w.heap.size w w' := by
  have h := order_any w; rw [out_N] at h; exact h
theorem base_ok (w : World) : Calls Tryz.prog 41 #[] w fun e w' => e = .returned (.agg (kvc (outK Ec.G).1 (outK Ec.G).2)) ∧ Below w.heap.size w w' := base_any w
theorem N_pos : 0 < Ec.N := by decide
theorem mod_lt256 (a : Nat) : a % Ec.N < 256 ^ 32 := Nat.lt_of_lt_of_le (Nat.mod_lt _ N_pos) (by decide)

/-- A multiple of a point that is one. -/
theorem times_out (n : ByteArray) (A : Ec.Pt Ec.P) (hn : n.size ≤ 32) (oA : A.on Ec.cb) (w : World) :
    Calls Tryz.prog 17 #[.string n, .agg (kvc (outK A).1 (outK A).2)] w fun e w' => e = .returned (.tuple #[.agg (kvc (outK (Ec.nA A (nv n))).1 (outK (Ec.nA A (nv n))).2), .int .i64 0]) ∧ Below w.heap.size w w' := by
  have h := ecTimes_any n (outK A).1 (outK A).2 w
  have e : timesR n (outK A).1 (outK A).2 = (outK (Ec.nA A (nv n)), 0) := by
    unfold timesR
    rw [if_neg (by omega), inK_out oA]
    show (outK (Ec.mulN A (nv n)), 0) = _
    rw [Ec.mulN_nA oA]
  rw [e] at h
  exact h
theorem add_out (A B : Ec.Pt Ec.P) (oA : A.on Ec.cb) (oB : B.on Ec.cb) (w : World) :
    Calls Tryz.prog 12 #[.agg (kvc (outK A).1 (outK A).2), .agg (kvc (outK B).1 (outK B).2)] w fun e w' => e = .returned (.tuple #[.agg (kvc (outK (Ec.addA A B)).1 (outK (Ec.addA A B)).2), .int .i64 0]) ∧ Below w.heap.size w w' := by
  have h := ecAdd_any (outK A).1 (outK A).2 (outK B).1 (outK B).2 w
  have e : addR (outK A).1 (outK A).2 (outK B).1 (outK B).2 = (outK (Ec.addA A B), 0) := by
    unfold addR
    rw [inK_out oA, inK_out oB]
  rw [e] at h
  exact h

/-- A multiple of the base point. -/
theorem multiple_ok (s : ByteArray) (hs : s.size ≤ 512) (w : World) :
    Calls Tryz.prog 28 #[.string s] w fun e w' => e = .returned (.tuple #[.agg (kvc (outK (Ec.nA Ec.G (nv s))).1 (outK (Ec.nA Ec.G (nv s))).2), .bool true]) ∧ Below w.heap.size w w' := by
  refine multiple_core s (tx (nv s % Ec.N)) ⟨tn.toArray⟩ (outK Ec.G).1 (outK Ec.G).2 _ _ (tx (nv s / Ec.N)) w order_ok (fun w => div_ok s ⟨tn.toArray⟩ (nv s) Ec.N w hs (by decide) rfl nv_tn N_pos) base_ok ?_
  intro w
  have h := times_out (tx (nv s % Ec.N)) Ec.G (tx_le (mod_lt256 _)) Ec.G_on w
  rw [nv_tx, ← Ec.nA_mod Ec.G_on] at h
  exact h

theorem sum_size {x y k : Nat} (hx : x < 256 ^ k) (hy : y < 256 ^ k) : x + y < 256 ^ (k + 1) := by
  rw [Nat.pow_succ]; omega
end Go.Proofs.YtaggpodckafbgaaGreatDoor
