/- reader.skip, word, wanted: the walks. -/
import Derived.Test.YthpagppipifgeaaGreatDoorZLPeek
namespace Go.Proofs.YthpagppipifgeaaGreatDoor
open Go.RowKit

theorem drop_cut (l : List UInt8) (m : Nat) : (bs l).extract m (bs l).size = bs (l.drop m) := by
  rw [bs_cut, bs_size, List.take_length]
theorem skip_any (rb : Nat) (s : List UInt8) (tok : ByteArray) (w : World) (ha : At rb s w) (ht : tok.size ≤ s.length) :
    Calls Tryz.prog 110 #[.pointer (some ⟨rb, 0, none⟩), .string tok] w fun e w' => e = .returned (.tuple #[]) ∧ Mv rb (s.drop tok.size) w w' := by
  have hm := Mv.store ha (s.drop tok.size)
  have c0 := ha.cell; have f0 := ha.fz
  have hsz := bs_size s
  have hc := drop_cut s tok.size
  have htz : (tok.size : Int) ≤ ((bs s).size : Int) := by rw [hsz]; omega
  rw [hsz] at hc
  have HM := Lib.hid hm
  have HC := Lib.hid hc
  clear hm ha hc
  go_enter Tryz.func110, Tryz.ntmps110
  go_wp2_with fail
  go_end0
  refine ⟨rfl, ?_⟩
  rw [HC.out]
  exact HM.out

def noS : ByteArray := ⟨#[110, 111, 32, 112, 111, 108, 105, 99, 121]⟩
/-- An error of this package, whatever its word. -/
def wrapV (why : ByteArray) : Value := .iface 80 (.agg #[.string why, .iface 57 (.string noS)])
theorem wanted_any (s : ByteArray) (w : World) (hs : s.size ≤ 1000) : Calls Tryz.prog 60 #[.string s] w fun e w' => (∃ why, e = .returned (wrapV why)) ∧ w' = w := by
  go_enter Tryz.func60, Tryz.ntmps60
  go_wp2_with fail
  go_ret
  exact ⟨⟨_, rfl⟩, rfl⟩

/-- What is behind this word, where it is the next one. -/
def wordS (wd u : List UInt8) : Option (List UInt8) := if peekS u = (wd, 119) then some (u.drop wd.length) else none
def WordPost (rb : Nat) (wd s : List UInt8) (w : World) : Ending → World → Prop := fun e w' =>
  e = .returned (.bool (wordS wd (trL s)).isSome) ∧ Mv rb ((wordS wd (trL s)).getD (trL s)) w w'
theorem peek_fst_le (u : List UInt8) : (peekS u).1.length ≤ u.length := by
  unfold peekS
  cases u with
  | nil => simp
  | cons c r =>
    simp only
    split
    · simp
    · split
      · simp
      · exact (List.takeWhile_prefix _).length_le
set_option maxRecDepth 100000 in
theorem word_any (rb : Nat) (s wd : List UInt8) (w : World) (ha : At rb s w) (hbig : s.length ≤ 9223372036854775807) :
    Calls Tryz.prog 94 #[.pointer (some ⟨rb, 0, none⟩), .string (bs wd)] w (WordPost rb wd s w) := by
  have HP : Hid (Calls Tryz.prog 59 #[.pointer (some ⟨rb, 0, none⟩)] w (PeekPost rb s w)) := Lib.hid (peek_any rb s w ha hbig)
  clear ha hbig
  unfold PeekPost at HP
  unfold WordPost wordS
  generalize trL s = u at *
  have hle := peek_fst_le u
  generalize peekS u = q at *
  obtain ⟨tok, kd⟩ := q
  have h1 := bs_list tok
  have h2 := bs_list wd
  by_cases hk : kd = 119
  · subst hk
    by_cases ht : tok = wd
    · subst ht
      simp only [if_true, Option.isSome_some, Option.getD_some] at HP ⊢
      have hle2 : (bs tok).size ≤ u.length := by rw [bs_size]; exact hle
      have HS : Hid (∀ w1, At rb u w1 → Calls Tryz.prog 110 #[.pointer (some ⟨rb, 0, none⟩), .string (bs tok)] w1 fun e w' => e = .returned (.tuple #[]) ∧ Mv rb (u.drop tok.length) w1 w') := Lib.hid fun w1 ha => by
        have := skip_any rb u (bs tok) w1 ha hle2
        rw [bs_size] at this
        exact this
      clear hle hle2
      go_enter Tryz.func94, Tryz.ntmps94
      go_wp2_with (first
        | (go_at_call 59; refine HP.out.mono ?_; rintro e w1 ⟨rfl, hm⟩)
        | (go_at_call 110; refine (HS.out _ hm.at_).mono ?_; rintro e w2 ⟨rfl, hm2⟩))
      go_ret
      exact ⟨rfl, hm.trans hm2⟩
    · have hne : ¬ (tok, 119) = (wd, 119) := fun h => ht (Prod.mk.inj h).1
      rw [if_neg hne]
      simp only [Option.isSome_none, Option.getD_none]
      have hb : (tok == wd) = false := by rw [beqL]; simp [ht]
      clear hle hne
      go_enter Tryz.func94, Tryz.ntmps94
      go_wp2_with (go_at_call 59; refine HP.out.mono ?_; rintro e w1 ⟨rfl, hm⟩)
      go_ret
      exact ⟨rfl, hm⟩
  · have hne : ¬ (tok, kd) = (wd, 119) := fun h => hk (Prod.mk.inj h).2
    rw [if_neg hne]
    simp only [Option.isSome_none, Option.getD_none]
    have hb : ((kd : Int) == 119) = false := by simp; omega
    have hb2 : ¬ (kd : Int) = 119 := by omega
    clear hle hne hk
    go_enter Tryz.func94, Tryz.ntmps94
    go_wp2_with (go_at_call 59; refine HP.out.mono ?_; rintro e w1 ⟨rfl, hm⟩)
    go_ret
    exact ⟨rfl, hm⟩
end Go.Proofs.YthpagppipifgeaaGreatDoor
