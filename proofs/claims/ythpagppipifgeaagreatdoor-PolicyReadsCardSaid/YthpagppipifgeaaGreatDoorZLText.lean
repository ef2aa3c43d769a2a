/- policy.text: the walk (the quoting of literals is given). -/
import Derived.Test.YthpagppipifgeaaGreatDoorZLB
import Derived.Test.YthpagppipifgeaaGreatDoorZLQ
namespace Go.Proofs.YthpagppipifgeaaGreatDoor
open Go.RowKit

/-- A strings.Replacer that quotes, not yet used, lies at rb. -/
def RepAt (rb : Nat) (w : World) : Prop := ∃ sb cap, w.heap[rb]? = some (.cells #[.int .u32 0, .int .i32 0, .int .u32 0, .nilIface, .slice (some ⟨sb, 0, none⟩) 4 cap] 116 (0, 0)) ∧ sb < rb ∧ 4 ≤ cap
  ∧ w.cell? ⟨sb, 0, none⟩ = some (.string ⟨#[34]⟩) ∧ w.cell? ⟨sb, 1, none⟩ = some (.string ⟨#[92, 34]⟩) ∧ w.cell? ⟨sb, 2, none⟩ = some (.string ⟨#[92]⟩) ∧ w.cell? ⟨sb, 3, none⟩ = some (.string ⟨#[92, 92]⟩)
def NewOk : Prop := ∀ (g : Nat) (w : World), w.heap[g]? = some (.cells #[.string ⟨#[34]⟩, .string ⟨#[92, 34]⟩, .string ⟨#[92]⟩, .string ⟨#[92, 92]⟩] 9 (0, 0)) →
  Calls Tryz.prog 41 #[.slice (some ⟨g, 0, none⟩) 4 4] w fun e w' => (∃ rb, e = .returned (.pointer (some ⟨rb, 0, none⟩)) ∧ RepAt rb w' ∧ w.heap.size ≤ rb) ∧ Below w.heap.size w w'
def ReplOk : Prop := ∀ (rb : Nat) (s : ByteArray) (w : World), RepAt rb w → s.size ≤ 64 →
  Calls Tryz.prog 42 #[.pointer (some ⟨rb, 0, none⟩), .string s] w fun e w' => e = .returned (.string (bs (quoteL s.data.toList))) ∧ Below rb w w'
theorem RepAt.below {rb : Nat} {w w' : World} (h : RepAt rb w) (hb : Below w.heap.size w w') : RepAt rb w' := by
  obtain ⟨sb, cap, h1, h2, h3, h4, h5, h6, h7⟩ := h
  have hr : rb < w.heap.size := (Array.getElem?_eq_some_iff.1 h1).1
  have hc : ∀ i, w'.cell? ⟨sb, i, none⟩ = w.cell? ⟨sb, i, none⟩ := fun i => hb.cell (p := ⟨sb, i, none⟩) (show sb < w.heap.size by omega)
  exact ⟨sb, cap, (hb.block rb hr).trans h1, h2, h3, (hc 0).trans h4, (hc 1).trans h5, (hc 2).trans h6, (hc 3).trans h7⟩

theorem look_ix0 (w : World) : (Instr.index 100 (.agg #[.string ⟨#[109, 101, 116, 104, 111, 100]⟩, .string ⟨#[112, 97, 116, 104]⟩, .string ⟨#[99, 108, 97, 105, 109, 46]⟩, .string ⟨#[99, 101, 114, 116, 46]⟩]) (.int .i64 0)).run Tryz.prog w = .ok (.string ⟨#[109, 101, 116, 104, 111, 100]⟩) w := by kernel_rfl
theorem look_ix1 (w : World) : (Instr.index 100 (.agg #[.string ⟨#[109, 101, 116, 104, 111, 100]⟩, .string ⟨#[112, 97, 116, 104]⟩, .string ⟨#[99, 108, 97, 105, 109, 46]⟩, .string ⟨#[99, 101, 114, 116, 46]⟩]) (.int .i64 1)).run Tryz.prog w = .ok (.string ⟨#[112, 97, 116, 104]⟩) w := by kernel_rfl
theorem look_ix2 (w : World) : (Instr.index 100 (.agg #[.string ⟨#[109, 101, 116, 104, 111, 100]⟩, .string ⟨#[112, 97, 116, 104]⟩, .string ⟨#[99, 108, 97, 105, 109, 46]⟩, .string ⟨#[99, 101, 114, 116, 46]⟩]) (.int .i64 2)).run Tryz.prog w = .ok (.string ⟨#[99, 108, 97, 105, 109, 46]⟩) w := by kernel_rfl
theorem look_ix3 (w : World) : (Instr.index 100 (.agg #[.string ⟨#[109, 101, 116, 104, 111, 100]⟩, .string ⟨#[112, 97, 116, 104]⟩, .string ⟨#[99, 108, 97, 105, 109, 46]⟩, .string ⟨#[99, 101, 114, 116, 46]⟩]) (.int .i64 3)).run Tryz.prog w = .ok (.string ⟨#[99, 101, 114, 116, 46]⟩) w := by kernel_rfl
theorem bs_app (l : List UInt8) (n : ByteArray) : bs l ++ n = bs (l ++ n.data.toList) := by
  cases n with | mk d => simp [bs, ByteArray.ext_iff]
set_option maxRecDepth 100000 in
theorem looks_any (k o : Int) (n t : ByteArray) (ad : Option Addr) (l c : Nat) (w : World) (h0 : 0 ≤ o) (h1 : o < 4) (hn : n.size ≤ 32) :
    Calls Tryz.prog 40 #[pv k o n t ad l c] w (RetS (bs (looksL o n.data.toList)) w) := by
  have hcase : o = 0 ∨ o = 1 ∨ o = 2 ∨ o = 3 := by omega
  have i0 := look_ix0; have i1 := look_ix1; have i2 := look_ix2; have i3 := look_ix3
  have n6 : ¬ 9223372036854775807 < 6 + n.size := by omega
  have n4 : ¬ 9223372036854775807 < 4 + n.size := by omega
  have n5 : ¬ 9223372036854775807 < 5 + n.size := by omega
  rcases hcase with rfl | rfl | rfl | rfl
  all_goals
    go_enter Tryz.func40, Tryz.ntmps40
    go_upto_region 1 with fail
    go_region
    all_goals
      go_wp2_with fail
      go_ret
      exact ⟨congrArg (fun x => Ending.returned (.string x)) (bs_app _ n), by first | exact (b_alloc w _).drew | exact (b_alloc w _) | exact (b_alloc w _).drew.drew | exact (b_alloc w _).drew.drew.drew⟩

def TextAt (F : Fo) : Prop := ∀ (k o : Int) (n t : ByteArray) (ad : Option Addr) (c : Nat) (w : World), mayP k o n t F = true → F.cnt ≤ 1000000 → SlF w F ad c →
  Calls Tryz.prog 25 #[pv k o n t ad F.len c] w (RetS (bs (textP k o n t F)) w)
theorem textP_le {k o : Int} {n t : ByteArray} {F : Fo} (h : mayP k o n t F = true) (hc : F.cnt ≤ 1000000) : (textP k o n t F).length ≤ 1000000000 := by
  have h1 := textN_le (o := o) (n := n) (t := t) (k := k) h (F.txs k)
  rw [Fo.txs_len] at h1
  unfold textP
  cases hm : F.may with
  | true =>
    have h2 := txs_le k F hm
    omega
  | false =>
    have hn : F = .nil := by
      unfold mayP nodeB at h
      rw [hm] at h
      have : F.len = 0 := by
        split at h
        · simp only [Bool.and_eq_true, decide_eq_true_eq] at h; exact h.2
        · split at h
          · simp at h
          · split at h
            · simp at h
            · split at h
              · simp only [Bool.and_eq_true, decide_eq_true_eq] at h; exact h.1.1.1.1
              · cases h
      cases F with | nil => rfl | cons => simp [Fo.len] at this
    rw [hn] at hm
    cases hm
theorem bs_app2 (a b : List UInt8) : bs a ++ bs b = bs (a ++ b) := by rw [bs_app, bs_data]

set_option maxRecDepth 100000 in
theorem text1_any (pk : Int) (F : Fo) (h : TextAt F) (k o : Int) (n t : ByteArray) (ad : Option Addr) (c B : Nat) (w : World) (hm : mayP k o n t F = true) (hc : F.cnt ≤ 1000000) (hs : SlF w F ad c) (hB : B < w.heap.size) (hp : w.cell? ⟨B, 0, none⟩ = some (.int .i64 pk)) :
    Calls Tryz.prog 38 #[pv k o n t ad F.len c, .pointer (some ⟨B, 0, none⟩)] w (RetS (bs (wrapT pk k (textP k o n t F))) w) := by
  have hl := textP_le hm hc
  have H : Hid (∀ w1, Below w.heap.size w w1 → Calls Tryz.prog 25 #[pv k o n t ad F.len c] w1 (RetS (bs (textP k o n t F)) w1)) := Lib.hid fun w1 hb => h k o n t ad c w1 hm hc (hs.grown hb)
  have hpA : ∀ ob, (w.alloc ob).cell? ⟨B, 0, none⟩ = some (.int .i64 pk) := fun ob => ((b_alloc w ob).cell (p := ⟨B, 0, none⟩) hB).trans hp
  clear h hm hc hs hp
  generalize textP k o n t F = T at *
  have hsz := bs_size T
  have z1 : ¬ 9223372036854775807 < 1 + (bs T).size := by omega
  have z2 : ¬ 9223372036854775807 < 1 + (bs T).size + 1 := by omega
  have z3 : (({ data := #[40] } : ByteArray) ++ bs T).size = 1 + (bs T).size := by rw [ByteArray.size_append]; rfl
  have hfin : (({ data := #[40] } : ByteArray) ++ bs T) ++ { data := #[41] } = bs ([40] ++ T ++ [41]) := by
    rw [show ({ data := #[40] } : ByteArray) = bs [40] from rfl, show ({ data := #[41] } : ByteArray) = bs [41] from rfl, bs_app2, bs_app2]
  have HF := Lib.hid hfin
  clear hfin
  unfold wrapT
  by_cases k3 : k = 3
  · subst k3
    rw [if_pos (Or.inl rfl)]
    go_enter Tryz.func38, Tryz.ntmps38
    go_wp2_with (go_at_call 25; refine (H.out _ (b_alloc _ _)).mono ?_; rintro e w1 ⟨rfl, hb⟩)
    go_ret
    exact ⟨congrArg (fun x => Ending.returned (.string x)) HF.out, b_call hb⟩
  · by_cases k2 : k = 2
    · subst k2
      by_cases p3 : pk = 3
      · subst p3
        rw [if_neg (by simp)]
        go_enter Tryz.func38, Tryz.ntmps38
        go_wp2_with (go_at_call 25; refine (H.out _ (b_alloc _ _)).mono ?_; rintro e w1 ⟨rfl, hb⟩)
        go_ret
        exact ⟨rfl, b_call hb⟩
      · rw [if_pos (Or.inr ⟨rfl, p3⟩)]
        have hpz : (pk != 3) = true := by simp [p3]
        go_enter Tryz.func38, Tryz.ntmps38
        go_wp2_with (go_at_call 25; refine (H.out _ (b_alloc _ _)).mono ?_; rintro e w1 ⟨rfl, hb⟩)
        go_ret
        exact ⟨congrArg (fun x => Ending.returned (.string x)) HF.out, b_call hb⟩
    · rw [if_neg (by rintro (h | ⟨h, _⟩); exact k3 h; exact k2 h)]
      have q3 : (k == 3) = false := by simp [k3]
      have q2 : (k == 2) = false := by simp [k2]
      go_enter Tryz.func38, Tryz.ntmps38
      go_wp2_with (go_at_call 25; refine (H.out _ (b_alloc _ _)).mono ?_; rintro e w1 ⟨rfl, hb⟩)
      go_ret
      exact ⟨rfl, b_call hb⟩
end Go.Proofs.YthpagppipifgeaaGreatDoor
