/- LOnce LOnce2, in one text. -/
import Derived.Test.YthpagppipifgeaaGreatDoorZLText
import Derived.Defers
import Derived.Laws.Pointers
import Derived.Laws.LoneSync
import Derived.RegionTactic
import Derived.RegionCalls
import Derived.ChangeAlike
/- sync.Once as strings.Replacer uses it: the parts (turned from the kit's worked Lazy texts). -/
namespace Go.Proofs.YthpagppipifgeaaGreatDoor
open Go.RowKit

theorem on_disable (w : World) : (callFunc 124 #[]).run Tryz.prog w = .ok (.value (.tuple #[])) w := run_call_mark0 Tryz.func124 (by kernel_rfl) (by kernel_rfl) (by kernel_rfl) .disable (by kernel_rfl) w
theorem on_enable (w : World) : (callFunc 126 #[]).run Tryz.prog w = .ok (.value (.tuple #[])) w := run_call_mark0 Tryz.func126 (by kernel_rfl) (by kernel_rfl) (by kernel_rfl) .enable (by kernel_rfl) w
theorem on_acquire (a : Addr) (w : World) : (callFunc 127 #[.pointer (some a)]).run Tryz.prog w = .ok (.value (.tuple #[])) w := run_call_marked Tryz.func127 (by kernel_rfl) (by kernel_rfl) (by kernel_rfl) .acquire (by kernel_rfl) a w
theorem on_release (a : Addr) (w : World) : (callFunc 129 #[.pointer (some a)]).run Tryz.prog w = .ok (.value (.tuple #[])) w := run_call_marked Tryz.func129 (by kernel_rfl) (by kernel_rfl) (by kernel_rfl) .releaseMerge (by kernel_rfl) a w

theorem on_store (a : Addr) (x : Value) (u : FrameMode) (w : World) (hc : w.cell? a = some x) (hz : w.frozen? a = false) :
    CallsD Tryz.prog 102 #[.pointer (some a), .bool true] u w fun e u' w' => u' = u ∧ (e = .returned (.tuple #[]) ∧ w' = w.drew.setCell a (.int .u32 1)) := by
  have hc' : w.drew.cell? a = some x := by go_simp
  have hz' : w.drew.frozen? a = false := by go_simp
  have hst := run_call_store (P := Tryz.prog) Tryz.func115 (by kernel_rfl) (by kernel_rfl) (by kernel_rfl) (by kernel_rfl) (k := .u32) (y := 1) hc' hz'
  go_enter_d Tryz.func102, Tryz.ntmps102
  go_wp2
  go_region_calls
  all_goals (go_end0; exact ⟨rfl, rfl⟩)

set_option maxRecDepth 100000 in
theorem on_unlock (a : Addr) (u : FrameMode) (w : World) (hc : w.cell? a = some (.int .i32 1)) (hz : w.frozen? a = false) :
    CallsD Tryz.prog 101 #[.pointer (some a)] u w fun e u' w' => u' = u ∧ (e = .returned (.tuple #[]) ∧ w' = w.setCell a (.int .i32 0)) := by
  have hd := on_disable
  have he := on_enable
  have hr := on_release
  have hadd := run_call_add (P := Tryz.prog) Tryz.func130 (by kernel_rfl) (by kernel_rfl) (by kernel_rfl) .i32 (by kernel_rfl) (y := -1) (s := 0) hc hz (by simp [go_sem]; rfl)
  have hcv := run_convert_to_unsafe (P := Tryz.prog) (src := 189) (dst := 147) Tryz.underlying189 Tryz.underlying147 (by kernel_rfl) hc
  go_enter_d Tryz.func101, Tryz.ntmps101
  go_wp2
  go_end0
  go_wp2
  go_end0
  exact ⟨rfl, rfl⟩

set_option maxRecDepth 100000 in
theorem on_lock (a : Addr) (w : World) (hc : w.cell? a = some (.int .i32 0)) (hz : w.frozen? a = false) :
    Calls Tryz.prog 100 #[.pointer (some a)] w fun e w' => e = .returned (.tuple #[]) ∧ w' = w.setCell a (.int .i32 1) := by
  have hd := on_disable
  have he := on_enable
  have ha := on_acquire
  have hcas := run_call_cas_hit (P := Tryz.prog) Tryz.func125 (by kernel_rfl) (by kernel_rfl) (by kernel_rfl) .i32 (by kernel_rfl) (y := 1) hc hz
  have hc' : (w.setCell a (.int .i32 1)).cell? a = some (.int .i32 1) := World.cell?_setCell_same w a _ hc
  have hcv := run_convert_to_unsafe (P := Tryz.prog) (src := 189) (dst := 147) Tryz.underlying189 Tryz.underlying147 (by kernel_rfl) hc'
  go_enter Tryz.func100, Tryz.ntmps100
  go_wp2
  first | go_end0 | (simp only [Exit.inBlock, Exit.then]; refine bodyPost_ret (results_none rfl _ _ _) rfl ?_) | refine bodyPost_ret (results_none rfl _ _ _) rfl ?_
  go_wp2
  go_end0
  exact ⟨rfl, rfl⟩
end Go.Proofs.YthpagppipifgeaaGreatDoor
/- (*sync.Once).Do, not yet done and the lock free: the function is called once (its contract is given). -/
namespace Go.Proofs.YthpagppipifgeaaGreatDoor
open Go.RowKit

def OnceIn (rb : Nat) (d s : Int) (w : World) : Prop := w.cell? ⟨rb, 0, none⟩ = some (.int .u32 d) ∧ w.cell? ⟨rb, 1, none⟩ = some (.int .i32 s) ∧ w.frozen? ⟨rb, 0, none⟩ = false ∧ w.frozen? ⟨rb, 1, none⟩ = false
set_option maxRecDepth 100000 in
set_option maxHeartbeats 1600000 in
theorem on_slow (rb : Nat) (R : World → Prop) (w : World) (h : OnceIn rb 0 0 w)
    (HF : Hid (Calls Tryz.prog 70 #[.pointer (some ⟨rb, 0, none⟩)] (w.setCell ⟨rb, 1, none⟩ (.int .i32 1)) fun e w' => e = .returned (.tuple #[]) ∧ R w' ∧ OnceIn rb 0 1 w')) :
    Calls Tryz.prog 84 #[.pointer (some ⟨rb, 0, none⟩), .func (.func 70) #[.pointer (some ⟨rb, 0, none⟩)] #[]] w fun e w' => e = .returned (.tuple #[]) ∧
      ∃ u, R u ∧ OnceIn rb 0 1 u ∧ w' = (u.drew.setCell ⟨rb, 0, none⟩ (.int .u32 1)).setCell ⟨rb, 1, none⟩ (.int .i32 0) := by
  obtain ⟨h0, h1, f0, f1⟩ := h
  have hl := run_call_load (P := Tryz.prog) Tryz.func99 (by kernel_rfl) (by kernel_rfl) (by kernel_rfl) .u32 (by kernel_rfl) (w := w.setCell ⟨rb, 1, none⟩ (.int .i32 1)) (a := ⟨rb, 0, none⟩) (x := 0) ((World.cell?_setCell_other _ ⟨rb, 1, none⟩ ⟨rb, 0, none⟩ _ (by simp)).trans h0)
  have hnot : ∀ (x : Bool) (w : World), (Op.unary .not (.bool x)).run Tryz.prog w = .ok (.bool (!x)) w := fun _ _ => rfl
  go_enter_defers Tryz.func84, Tryz.ntmps84
  go_wp2_with (first
    | (go_at_call 100; refine (on_lock ⟨rb, 1, none⟩ _ h1 f1).mono ?_; rintro e w' ⟨rfl, rfl⟩)
    | (go_at_call 83; go_in)
    | (go_at_call 70; refine HF.out.mono ?_; rintro e u ⟨rfl, hR, hu⟩))
  obtain ⟨u0, u1, v0, v1⟩ := hu
  refine leaves_cons (f := 102) (args := #[.pointer (some ⟨rb, 0, none⟩), .bool true]) (by simp) (by simp [go_sem]) ?_
  refine (on_store ⟨rb, 0, none⟩ (.int .u32 0) .returning _ u0 v0).mono ?_
  rintro e u' w'' ⟨rfl, rfl, rfl⟩
  refine leaves_cons (f := 101) (args := #[.pointer (some ⟨rb, 1, none⟩)]) (by simp [settle]) (by simp [go_sem]) ?_
  refine (on_unlock ⟨rb, 1, none⟩ _ _ ?_ (by simp [v1])).mono ?_
  · refine (World.cell?_setCell_other _ ⟨rb, 0, none⟩ ⟨rb, 1, none⟩ _ (by simp)).trans ?_
    rw [World.cell?_drew]
    exact u1
  rintro e u' w'' ⟨rfl, rfl, rfl⟩
  simp only [Leaves, settle, results, Tryz.results84]
  exact ⟨.tuple #[], by simp, rfl, u, hR, ⟨u0, u1, v0, v1⟩, rfl⟩
set_option maxRecDepth 100000 in
set_option maxHeartbeats 1600000 in
theorem on_do (rb : Nat) (R : World → Prop) (w : World) (h : OnceIn rb 0 0 w)
    (HF : Hid (Calls Tryz.prog 70 #[.pointer (some ⟨rb, 0, none⟩)] (w.setCell ⟨rb, 1, none⟩ (.int .i32 1)) fun e w' => e = .returned (.tuple #[]) ∧ R w' ∧ OnceIn rb 0 1 w')) :
    Calls Tryz.prog 69 #[.pointer (some ⟨rb, 0, none⟩), .func (.func 70) #[.pointer (some ⟨rb, 0, none⟩)] #[]] w fun e w' => e = .returned (.tuple #[]) ∧
      ∃ u, R u ∧ OnceIn rb 0 1 u ∧ w' = (u.drew.setCell ⟨rb, 0, none⟩ (.int .u32 1)).setCell ⟨rb, 1, none⟩ (.int .i32 0) := by
  have h0 := h.1
  have hl := run_call_load (P := Tryz.prog) Tryz.func99 (by kernel_rfl) (by kernel_rfl) (by kernel_rfl) .u32 (by kernel_rfl) h0
  have hnot : ∀ (x : Bool) (w : World), (Op.unary .not (.bool x)).run Tryz.prog w = .ok (.bool (!x)) w := fun _ _ => rfl
  go_enter Tryz.func69, Tryz.ntmps69
  go_wp2_with (first | (go_at_call 84; refine (on_slow rb R _ h HF).mono ?_; rintro e w' ⟨rfl, hu⟩) | (go_at_call 83; go_in))
  go_end0
  exact ⟨rfl, hu⟩
end Go.Proofs.YthpagppipifgeaaGreatDoor
