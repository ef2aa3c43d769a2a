/- 'PolicyBlind': for every input the law answers true: the row and its card. Conditions: the arguments are together of bulk at most 1048576; the listed package-level variables start as the program's text lays them. -/
import Derived.Test.YthpagppipifgeaaGreatDoorCards
import Derived.Test.YthpagppipifgeaaGreatDoorTie
import Derived.Test.YthpagppipifgeaaGreatDoorZLBlindLaw
import Derived.Test.YthpagppipifgeaaGreatDoorZLF
import Derived.Test.YthpagppipifgeaaGreatDoorZLOpen2
import Derived.SizedLaws
import Derived.Deep.DeepHandedRow
import Derived.Deep.DeepLaidRun
namespace Go.Proofs.YthpagppipifgeaaGreatDoor.policyBlind
open Go.ChangeShapes Go.WideShapes Go.ChangeAt Go.RowKit
open Go.ChangeMaps (open_string shut_string)

theorem own : ownKnob Tryz.prog.godebug = none := by kernel_rfl
set_option maxRecDepth 100000 in
/-- What the walk gives, for every argument. -/
theorem contract (H : Type) (enc : TypeId × Value → H) (W : World) (base : Nat) (args : Array Value) (ds gs : List (DataW H)) (before : List MemPlace)
    (hval : ∀ (j : Nat) t v, Tryz.f7.params[j]? = some t → args[j]? = some v → Value.okWide Tryz.prog W .any base t v)
    (hW : DataW.Whole enc Tryz.prog Tryz.f7.params.toList Rows.policyBlindSpec.vars false W args.toList ds gs before)
    (hk : Rows.uptoSmall H (ds ++ gs) = true) (hz : (DataW.weightsEach Tryz.prog (Tryz.f7.params.toList ++ (OpenSpec.ofChange Rows.policyBlindSpec).bare.plain.varTypes Tryz.prog) (ds ++ gs)).all (· ≤ reachBytes) = true) :
    Calls Tryz.prog 7 args W fun e W' => ∃ v, e = .returned v ∧ Rows.policyBlindSpec.post enc Tryz.prog Tryz.f7 false true false false W args v W' := by
  have hW' := hW
  obtain ⟨p, q, hA0, hV, rfl, hfz, hnd⟩ := hW
  have hA : DataW.TrodAll enc Tryz.prog W 0 (fun _ => true) true Tryz.f7.params.toList args.toList ds p := hA0
  rw [Tryz.params7] at hA hval hz
  obtain ⟨v0, vs0, d0, ds0, p0, q0, e0, rfl, rfl, h0, r0⟩ := trodAll_cons hA
  obtain ⟨v1, vs1, d1, ds1, p1, q1, e1, rfl, rfl, h1, r1⟩ := trodAll_cons r0
  obtain ⟨v2, vs2, d2, ds2, p2, q2, e2, rfl, rfl, h2, r2⟩ := trodAll_cons r1
  obtain ⟨rfl, rfl, rfl⟩ := trodAll_nil r2
  obtain rfl : args = #[v0, v1, v2] := by cases args; simp_all
  obtain ⟨rfl, rfl⟩ := trodVars_none hV
  have h0k := h0
  have h1k := h1
  have h2k := h2
  have hf0 : Fits Tryz.prog 24 d0 := fits_arg hz 0 rfl rfl
  have hf1 : Fits Tryz.prog 27 d1 := fits_arg hz 1 rfl rfl
  have hf2 : Fits Tryz.prog 25 d2 := fits_arg hz 2 rfl rfl
  obtain ⟨k0, o0, n0, t0, ad0, c0, F0, rfl, zn0, zt0, zs0, zl0, zls0, zb0⟩ := open_policy (hval 0 24 v0 rfl rfl) h0 hf0
  obtain ⟨x1, rfl, zx1, za1, zb1, zk1⟩ := open_facts2 (hval 1 27 v1 rfl rfl) h1 hf1
  obtain ⟨l2, a2, c2, rfl, zx2, zl2⟩ := open_flist (hval 2 25 v2 rfl rfl) h2 hf2
  clear hA0
  simp only [List.append_nil] at hk
  have hbulk : Rows.uptoBulkAll ([d0, d1, d2]) ≤ 1048576 := of_decide_eq_true hk
  simp only [Rows.uptoBulkAll] at hbulk
  have zk0 : F0.cnt ≤ 174763 := by omega
  refine (law_any k0 o0 n0 t0 ad0 c0 F0 x1 l2 a2 c2 W zn0 zt0 zl0 zls0 zs0 zk0 zx1 za1 zb1 (by omega) zx2 (by omega)).mono fun e W' ⟨he, hg⟩ => ?_
  subst he
  have hW1 := hW'
  exact ⟨_, rfl, post_new2 (pv := []) hW' hg rfl (fun _ _ _ => trodAll_cons_mk (shut_bool Tryz.underlying4 _) trodAll_mk0) (trodAll_cons_mk (carry laidOut (by kernel_rfl) (of_decide_eq_true (by kernel_rfl)) h0k hg (fun y hy => hW1.lt y (by simp [hy]))) (trodAll_cons_mk (carry laidOut (by kernel_rfl) (of_decide_eq_true (by kernel_rfl)) h1k hg (fun y hy => hW1.lt y (by simp [hy]))) (trodAll_cons_mk (carry laidOut (by kernel_rfl) (of_decide_eq_true (by kernel_rfl)) h2k hg (fun y hy => hW1.lt y (by simp [hy]))) trodAll_mk0))) (fun _ _ => rfl)⟩

/-- A block that holds these bytes. -/
def held (l : List Nat) : Obj → Obj
  | .cells _ t frozen => .cells (l.map fun z => Value.int .u8 (z : Nat)).toArray t frozen
  | o => o
/-- A world for the witness: the settled one, the two tables holding what their initialisers lay. -/
noncomputable def laidWorld (os : Os) : World :=
  { World.holding Tryz.prog os ⟨#[], #[], []⟩ with heap := ((World.holding Tryz.prog os ⟨#[], #[], []⟩).heap.modify 2 (held [128, 191, 160, 191, 128, 159, 144, 191, 128, 143, 0, 0, 0, 0, 0, 0, 0, 0, 0, 0, 0, 0, 0, 0, 0, 0, 0, 0, 0, 0, 0, 0])).modify 1 (held Go.Pinned.utf8FirstZ) }
theorem laid_met (os : Os) : laidMet Tryz.prog Rows.policyBlindUptoRow.laid ((laidWorld os).forCall (fun _ _ => 0) ⟨#[], #[.agg #[.int .i64 0, .int .i64 0, .string .empty, .string .empty, .slice none 0 0], .agg #[.string .empty, .string .empty, .slice none 0 0, .slice none 0 0], .slice none 0 0], []⟩).memory :=
  laidMet_of_run3 8 (by kernel_rfl) (by kernel_rfl) (by kernel_rfl)
theorem reads (os : Os) {H : Type} (enc : TypeId × Value → H) : ∃ places, DataW.whole enc Tryz.prog ((laidWorld os).forCall (fun _ _ => 0) ⟨#[], #[.agg #[.int .i64 0, .int .i64 0, .string .empty, .string .empty, .slice none 0 0], .agg #[.string .empty, .string .empty, .slice none 0 0, .slice none 0 0], .slice none 0 0], []⟩).memory Tryz.f7.params.toList Rows.policyBlindSpec.vars false #[Value.agg #[.int .i64 0, .int .i64 0, .string .empty, .string .empty, .slice none 0 0], Value.agg #[.string .empty, .string .empty, .slice none 0 0, .slice none 0 0], Value.slice none 0 0].toList 8 = some ([.agg [.lit (.int .i64 0), .lit (.int .i64 0), .lit (.string []), .lit (.string []), .nil], .agg [.lit (.string []), .lit (.string []), .nil, .nil], .nil], [], places) :=
  ⟨[], by kernel_rfl⟩

set_option maxRecDepth 100000 in
theorem lifted (os : Os) (started : os.Started) (H : Type) (enc : TypeId × Value → H) (F : Stop.Interp) :
    ReturnsInHanded {} Tryz.checked os 7 .any ((Rows.OpenSpec.upto Rows.policyBlindSpec).preRow enc Tryz.prog Tryz.f7 Rows.policyBlindUptoRow.domain false Rows.policyBlindUptoRow.laid) (((Rows.OpenSpec.upto Rows.policyBlindSpec).at F).post enc Tryz.prog Tryz.f7 false true false false) := by
  obtain ⟨places, hx⟩ := reads os enc
  refine returnsInHanded_of_row (C := Tryz.checked) (s := Rows.OpenSpec.upto Rows.policyBlindSpec) own started (by kernel_rfl) Tryz.func7
    (witness_row_at (enc := enc) (C := Tryz.checked) false (laidWorld os) #[.agg #[.int .i64 0, .int .i64 0, .string .empty, .string .empty, .slice none 0 0], .agg #[.string .empty, .string .empty, .slice none 0 0, .slice none 0 0], .slice none 0 0] rfl (by kernel_rfl) (by kernel_rfl) (by kernel_rfl)
      (OpenSpec.preRow_of_cond 8 hx (by kernel_rfl) (fun k hk => by cases hk; kernel_rfl) (by kernel_rfl) (laid_met os))) ?_
  intro W base args ds gs before hval hW _ hcond hz _ _ _
  exact contract H enc W base args ds gs before hval hW (hcond _ rfl) hz

theorem said : Rows.PolicyBlindUptoSaid :=
  OpenClaim.holds_of_cond 7 Tryz.f7 rfl rfl rfl rfl rfl rfl rfl ⟨rfl, rfl, rfl, rfl, rfl⟩ rfl rfl rfl rfl rfl (by kernel_rfl) Tryz.func7 (by kernel_rfl)
    (of_decide_eq_true (by kernel_rfl)) (by unfold Func.isWrapper; first | (rw [if_pos (by decide +kernel)]; kernel_rfl) | (rw [if_neg (by decide +kernel)]; exact ⟨rfl, rfl⟩))
    (fun os started H enc _ F => by rw [OpenClaim.pre_eq_preRow]; exact lifted os started H enc F)

/-- No parameter wants a stand-in; the program's own looks: what the card asks. -/
theorem plain (f : FuncId) (fn : Func) (hf : Tryz.pinned.checked.prog.funcNamed "ostiary/ostiarylaw20.PolicyBlind" = some f) (hfn : Tryz.pinned.checked.prog.funcs[f]? = some fn) :
    true = Tryz.pinned.checked.prog.looks [] ∧ ∀ (j : Nat) t, fn.params[j]? = some t → Tryz.pinned.checked.prog.wantsStandIn t = false := by
  obtain rfl : f = 7 := Option.some.inj ((show Tryz.prog.funcNamed "ostiary/ostiarylaw20.PolicyBlind" = some 7 by kernel_rfl).symm.trans hf) |>.symm
  obtain rfl : fn = Tryz.f7 := (Option.some.inj (Tryz.func7.symm.trans hfn)).symm
  refine ⟨by kernel_rfl, fun j t ht => ?_⟩
  rw [Tryz.params7] at ht
  have hm := Array.mem_of_getElem? ht
  have hP : Tryz.prog.wantsStandIn 24 = false := by kernel_rfl
  have hF : Tryz.prog.wantsStandIn 27 = false := by kernel_rfl
  have hL : Tryz.prog.wantsStandIn 25 = false := by kernel_rfl
  simp only [List.mem_toArray, List.mem_cons, List.not_mem_nil, or_false] at hm
  rcases hm with h2 | h2 | h2
  · rw [h2]; exact hP
  · rw [h2]; exact hF
  · rw [h2]; exact hL


/-- The card. -/
theorem card : Rows.PolicyBlindUptoCardSaid :=
  Claim7.holds_tied_plain_at .later [] _ _ _ _ said (fun _ h => by cases h) (by kernel_rfl) (fun _ h => by cases h) policyBlindUpto_row_tie rfl ⟨rfl, rfl⟩ (by kernel_rfl) rfl plain (by kernel_rfl)
end Go.Proofs.YthpagppipifgeaaGreatDoor.policyBlind
