/- strings.IndexRune and strings.IndexAny of any text, at the marks '.' and ':' (the short road: texts of at most 8 bytes, whatever they are). -/
import Derived.Test.YtipjkjcmceeaeaaGreatDoorYLabel
import Derived.Test.YtipjkjcmceeaeaaGreatDoorYDec
import Derived.Deep.LoopGhost
import Derived.Laws.Runes
import Derived.WalkMore
namespace Go.Proofs.YtipjkjcmceeaeaaGreatDoor
open Go.RowKit

set_option maxRecDepth 100000 in
set_option maxHeartbeats 8000000 in
theorem idxRune_fffd (w : World) : Calls Tryz.prog 65 #[.string ⟨#[46, 58]⟩, .int .i32 65533] w fun e w' => e = .returned (.int .i64 (-1)) ∧ Below w.heap.size w w' := by
  obtain ⟨M, hM⟩ : ∃ M : ByteArray, M = ⟨#[46, 58]⟩ := ⟨_, rfl⟩
  have hsz : M.size = 2 := by rw [hM]; rfl
  have h0 : Utf8.decode M 0 = (46, 1) := by rw [hM]; decide +kernel
  have h1 : Utf8.decode M 1 = (58, 1) := by rw [hM]; decide +kernel
  rw [← hM]
  have H : Hid (∀ i : Nat, i < 2 → ∀ (W : World) k, W.heap[k]? = some (.stringIter M i) → ∃ c : Nat, (decide ((c : Int) = 65533)) = false ∧ c < 128 ∧ ∀ ty, (Instr.next (.pointer (some ⟨k, 0, none⟩)) true ty).run Tryz.prog W = .ok (.tuple #[.bool true, .int .i64 i, .int .i32 c]) (nxt W k (.stringIter M (i + 1)))) := Lib.hid fun i hi W k hk => by
    have hn := next_at (P := Tryz.prog) W k M i hk (by rw [hsz]; exact hi)
    rcases Nat.lt_or_ge i 1 with h | h
    · obtain rfl : i = 0 := (by omega)
      rw [h0] at hn
      exact ⟨46, by decide, by decide, hn⟩
    · obtain rfl : i = 1 := (by omega)
      rw [h1] at hn
      exact ⟨58, by decide, by decide, hn⟩
  have HE : Hid (∀ (W : World) k, W.heap[k]? = some (.stringIter M 2) → ∀ ty, (Instr.next (.pointer (some ⟨k, 0, none⟩)) true ty).run Tryz.prog W = .ok (.tuple #[.bool false]) W) := Lib.hid fun W k hk ty => next_end W k M 2 hk (by rw [hsz]; decide) ty
  clear hM h0 h1 hsz
  go_enter Tryz.func65, Tryz.ntmps65
  go_wp2
  go_loopg [5, 6] 2 (fun g _ _ wr => ∃ i, i + g = 2 ∧ wr.heap[w.heap.size]? = some (.stringIter M i) ∧ Below w.heap.size w wr)
  case atStart => exact ⟨0, by omega, World.iter_heap w M 0, (Below.refl _ _).alloc (Nat.le_refl _) _⟩
  case round =>
    obtain ⟨i, hig, hk, hb⟩ := hrel
    have HK := Lib.hid hk
    have HB := Lib.hid hb
    clear hk hb
    cases gk with
    | zero =>
      obtain rfl : i = 2 := by omega
      have hnx := HE.out wr _ HK.out
      go_wp2
      go_ret
      exact ⟨rfl, HB.out⟩
    | succ g =>
      obtain ⟨c, hc, hc2, hnx⟩ := H.out i (by omega) wr _ HK.out
      have hcz : ((c : Int) == 65533) = false := by simpa using hc
      go_wp2
      go_roundg g
      case measure => omega
      case rel => exact ⟨i + 1, by omega, nxt_at _ _ _ _ HK.out, nxt_below HB.out _ _ (Nat.le_refl _)⟩
theorem below_drewN (w : World) (n : Nat) : Below w.heap.size w (w.drewN n) := by
  exact ⟨rfl, rfl, rfl, Nat.le_refl _, fun _ _ => rfl⟩
set_option maxRecDepth 100000 in
set_option maxHeartbeats 8000000 in
theorem idxRune_high (r : Nat) (h : 128 ≤ r) (w : World) : Calls Tryz.prog 65 #[.string ⟨#[46, 58]⟩, .int .i32 r] w fun e w' => e = .returned (.int .i64 (-1)) ∧ Below w.heap.size w w' := by
  by_cases h1 : r = 65533
  · subst h1; exact idxRune_fffd w
  have h1z : ((r : Int) == 65533) = false := by simp; omega
  have h0z : (0 : Int) ≤ r := by omega
  have h128 : ¬ ((r : Int) < 128) := by omega
  cases hv : Lib.validRune r with
  | false =>
    go_enter Tryz.func65, Tryz.ntmps65
    go_wp2_with (go_at_call 92; refine (Tryz.utf8_ValidRune _ _).mono ?_; rintro e w' ⟨rfl, rfl⟩; rw [hv])
    go_ret
    exact ⟨rfl, Below.refl _ _⟩
  | true =>
    have hv2 : Utf8.valid (r : Int) = true := by rw [validRune_eq]; exact hv
    obtain ⟨z2, z4, zl⟩ := encode_facts (r : Int) hv2 (by omega)
    have hcv0 : ∀ W, (convert 21 9 (.int .i32 r)).run Tryz.prog W = .ok (.string (Utf8.encode r)) W := fun W => run_convert_int_string W _ _ .i32 r (by rw [Tryz.underlying21]; rfl) Tryz.underlying9
    obtain ⟨R, hR⟩ : ∃ R, R = Utf8.encode r := ⟨_, rfl⟩
    rw [← hR] at z2 z4 zl hcv0
    have hcv := hcv0
    clear hR hcv0 hv2
    rcases (by omega : R.size = 2 ∨ R.size = 3 ∨ R.size = 4) with hz | hz | hz
    · obtain ⟨y, hy⟩ : ∃ y, y = R[1]'(by omega) := ⟨_, rfl⟩
      have hy2 : 128 ≤ y.toNat := by
        have := zl (by omega)
        rw [hy]
        simpa [hz] using this
      have hyi : ∀ h : 1 < R.size, R[1]'h = y := fun h => hy.symm
      obtain ⟨M, hM⟩ : ∃ M : ByteArray, M = ⟨#[46, 58]⟩ := ⟨_, rfl⟩
      obtain ⟨x, hx⟩ : ∃ x : UInt8, x = 58 := ⟨_, rfl⟩
      have hms : M.size = 2 := by rw [hM]; rfl
      have hm1 : ∀ h : 1 < M.size, M[1]'h = x := by rw [hM, hx]; exact fun _ => rfl
      have hne : ((x.toNat : Int) != (y.toNat : Int)) = true := by
        have : x.toNat = 58 := by rw [hx]; rfl
        rw [this]; simp; omega
      have HIX : Hid (∀ u, Calls Tryz.prog 91 #[.string ByteArray.empty, .int .u8 y.toNat] u fun e w' => e = .returned (.int .i64 (-1)) ∧ w' = u) := Lib.hid fun u => (Tryz.strings_IndexByte _ _ _).mono fun e w' hh => ⟨by rw [hh.1]; rfl, hh.2⟩
      have hw2 : IntKind.i64.wrap 2 = 2 := by decide
      rw [← hM]
      clear zl z2 z4 hy hM hx hy2
      go_enter Tryz.func65, Tryz.ntmps65
      go_wp2_with (go_at_call 92; refine (Tryz.utf8_ValidRune _ _).mono ?_; rintro e w' ⟨rfl, rfl⟩; rw [hv])
      go_step3
      go_wp2
      refine wp_loop_rounds 1 ?_
      rw [rounds_succ]
      go_wp2
      go_step3
      go_wp2
      go_region
      go_wp2
      go_quiet ((go_at_call 91; exact (HIX.out _).mono fun _ _ hh => ⟨hh.1, _, hh.2⟩))
      go_wp2
      simp only [Exit.noGoto_ret, Exit.inBlock, Exit.then]
      go_ret
      exact ⟨rfl, below_drewN _ _⟩
    · clear zl z2 z4
      go_enter Tryz.func65, Tryz.ntmps65
      go_wp2_with (go_at_call 92; refine (Tryz.utf8_ValidRune _ _).mono ?_; rintro e w' ⟨rfl, rfl⟩; rw [hv])
      go_step3
      go_wp2
      refine wp_loop_rounds 1 ?_
      rw [rounds_succ]
      go_wp2
      rw [Exit.noGoto_ret]
      go_ret
      exact ⟨rfl, Below.refl _ _⟩
    · clear zl z2 z4
      go_enter Tryz.func65, Tryz.ntmps65
      go_wp2_with (go_at_call 92; refine (Tryz.utf8_ValidRune _ _).mono ?_; rintro e w' ⟨rfl, rfl⟩; rw [hv])
      go_step3
      go_wp2
      refine wp_loop_rounds 1 ?_
      rw [rounds_succ]
      go_wp2
      rw [Exit.noGoto_ret]
      go_ret
      exact ⟨rfl, Below.refl _ _⟩
set_option maxRecDepth 100000 in
set_option maxHeartbeats 8000000 in
theorem idxAny_short (s : ByteArray) (w : World) (h8 : s.size ≤ 8) : Calls Tryz.prog 36 #[.string s, .string ⟨#[46, 58]⟩] w fun e w' => e = .returned (.int .i64 (Lib.indexAny s.data.toList [46, 58])) ∧ Below w.heap.size w w' := by
  have h8z : decide ((8 : Int) < (s.size : Int)) = false := decide_eq_false (by omega)
  have HRA : Hid (∀ (x : UInt8) u, x.toNat < 128 → Calls Tryz.prog 65 #[.string ⟨#[46, 58]⟩, .int .i32 x.toNat] u fun e w' => e = .returned (.int .i64 (Lib.indexByte [46, 58] x)) ∧ w' = u) := Lib.hid fun x u hx => (Tryz.strings_IndexRune_ascii _ _ _ (by omega) (by omega)).mono fun e w' hh => ⟨by rw [hh.1]; simp, hh.2⟩
  have HRH : Hid (∀ (r : Nat) u, 128 ≤ r → Calls Tryz.prog 65 #[.string ⟨#[46, 58]⟩, .int .i32 r] u fun e w' => e = .returned (.int .i64 (-1)) ∧ Below u.heap.size u w') := Lib.hid fun r u h => idxRune_high r h u
  go_enter Tryz.func36, Tryz.ntmps36
  go_wp2_with (go_at_call 66; refine (Tryz.strings_shouldUseASCIISet _ _).mono ?_; rintro e w' ⟨rfl, hw⟩; rw [hw, h8z])
  go_loopg [9, 10] s.size (fun g _ _ wr => ∃ i, i + g = s.size ∧ wr.heap[w.heap.size]? = some (.stringIter s i) ∧ Below w.heap.size w wr ∧ Lib.NoAny s.data.toList [46, 58] i)
  case atStart => exact ⟨0, by omega, World.iter_heap w s 0, (Below.refl _ _).alloc (Nat.le_refl _) _, Lib.NoAny.zero _ _⟩
  case round =>
    obtain ⟨i, hig, hk, hb, hno⟩ := hrel
    have HK := Lib.hid hk
    have HB := Lib.hid hb
    have HN := Lib.hid hno
    clear hk hb hno
    cases gk with
    | zero =>
      obtain rfl : i = s.size := by omega
      have hnx := fun ty => next_end (P := Tryz.prog) wr _ s s.size HK.out (by omega) ty
      go_wp2
      go_ret
      exact ⟨by rw [Lib.indexAny_none (by rw [← Lib.size_eq]; exact HN.out)]; rfl, HB.out⟩
    | succ g =>
      have hi : i < s.size := by omega
      obtain ⟨x, hx⟩ : ∃ x : UInt8, s[i]'hi = x := ⟨_, rfl⟩
      have Hx : Hid (s.data.toList[i]? = some x) := Lib.hid (by rw [← hx]; exact Lib.data_getElem? s i hi)
      have hnx0 := fun ty => next_at (P := Tryz.prog) wr _ s i HK.out hi ty
      by_cases hx128 : x.toNat < 128
      · have hdc := decode_ascii s i hi (by rw [hx]; exact hx128)
        rw [hx] at hdc
        rw [hdc] at hnx0
        have hnx := hnx0
        have HW : Hid ((nxt wr w.heap.size (.stringIter s (i + 1))).heap[w.heap.size]? = some (.stringIter s (i + 1)) ∧ Below w.heap.size w (nxt wr w.heap.size (.stringIter s (i + 1)))) := Lib.hid ⟨nxt_at _ _ _ _ HK.out, nxt_below HB.out _ _ (Nat.le_refl _)⟩
        clear hx hdc hnx0
        generalize nxt wr w.heap.size (.stringIter s (i + 1)) = W2 at *
        have hcon := Lib.contains_iff_indexByte [46, 58] x
        obtain ⟨z, hz⟩ : ∃ z, z = Lib.indexByte [46, 58] x := ⟨_, rfl⟩
        have HR1 : Hid (∀ u, Calls Tryz.prog 65 #[.string ⟨#[46, 58]⟩, .int .i32 x.toNat] u fun e w' => e = .returned (.int .i64 z) ∧ w' = u) := Lib.hid fun u => by rw [hz]; exact HRA.out x u hx128
        rw [← hz] at hcon
        clear hz
        cases hin : ([46, 58] : List UInt8).contains x
        · rw [hin] at hcon
          have hlt : ¬ ((0 : Int) ≤ z) := of_decide_eq_false hcon.symm
          have HN2 := Lib.hid (HN.out.succ Hx.out hin)
          clear hcon hin
          go_wp2_with (go_at_call 65; refine (HR1.out _).mono ?_; rintro e w' ⟨rfl, rfl⟩)
          go_roundg g
          case measure => omega
          case rel => exact ⟨i + 1, by omega, HW.out.1, HW.out.2, HN2.out⟩
        · rw [hin] at hcon
          have hge : (0 : Int) ≤ z := of_decide_eq_true hcon.symm
          have HH := Lib.hid (Lib.indexAny_hit HN.out Hx.out hin)
          clear hcon hin
          go_wp2_with (go_at_call 65; refine (HR1.out _).mono ?_; rintro e w' ⟨rfl, rfl⟩)
          go_ret
          exact ⟨by rw [HH.out]; rfl, HW.out.2⟩
      · obtain ⟨n, hn1, hn2, hn3, hn4⟩ := dec_high s i hi (by rw [hx]; omega)
        obtain ⟨c, hc⟩ : ∃ c, c = (Utf8.decode s i).1 := ⟨_, rfl⟩
        rw [hn1, ← hc] at hnx0
        rw [← hc] at hn3
        have hnx := hnx0
        have HN2 : Hid (Lib.NoAny s.data.toList [46, 58] (i + (n + 1))) := Lib.hid fun j b hj hb => by
          rcases Nat.lt_or_ge j i with h | h
          · exact HN.out j b h hb
          · obtain ⟨b2, h2, h3⟩ := hn4 (j - i) (by omega)
            rw [show i + (j - i) = j by omega, hb] at h2
            obtain rfl : b = b2 := by simpa using h2
            cases hcb : ([46, 58] : List UInt8).contains b with
            | false => rfl
            | true =>
              exfalso
              have hm : b ∈ ([46, 58] : List UInt8) := by simpa using hcb
              simp only [List.mem_cons, List.not_mem_nil, or_false] at hm
              rcases hm with rfl | rfl
              · exact absurd h3 (by decide)
              · exact absurd h3 (by decide)
        have HW : Hid ((nxt wr w.heap.size (.stringIter s (i + (n + 1)))).heap[w.heap.size]? = some (.stringIter s (i + (n + 1))) ∧ Below w.heap.size w (nxt wr w.heap.size (.stringIter s (i + (n + 1)))) ∧ w.heap.size < (nxt wr w.heap.size (.stringIter s (i + (n + 1)))).heap.size) := Lib.hid ⟨nxt_at _ _ _ _ HK.out, nxt_below HB.out _ _ (Nat.le_refl _), (Array.getElem?_eq_some_iff.1 (nxt_at _ _ _ _ HK.out)).1⟩
        have HRC : Hid (∀ u, Calls Tryz.prog 65 #[.string ⟨#[46, 58]⟩, .int .i32 c] u fun e w' => e = .returned (.int .i64 (-1)) ∧ Below u.heap.size u w') := Lib.hid fun u => HRH.out c u hn3
        clear hx hnx0 hn1 hn3 hn4 hc
        generalize nxt wr w.heap.size (.stringIter s (i + (n + 1))) = W2 at *
        go_wp2_with (go_at_call 65; refine (HRC.out _).mono ?_; rintro e w3 ⟨rfl, hb3⟩)
        go_roundg (s.size - (i + (n + 1)))
        case measure => omega
        case rel => exact ⟨i + (n + 1), by omega, by rw [hb3.block _ HW.out.2.2]; exact HW.out.1, HW.out.2.1.trans (hb3.mono HW.out.2.1.size), HN2.out⟩
/-- strings.IndexAny of any text, at '.' and ':'. -/
theorem idxAny_any (v : Bs) (w : World) (hl : v.length ≤ 1048576) : Calls Tryz.prog 36 #[.string (bs v), .string ⟨#[46, 58]⟩] w fun e w' => e = .returned (.int .i64 (Lib.indexAny v [46, 58])) ∧ Below w.heap.size w w' := by
  have hz := bs_size v
  rcases Nat.lt_or_ge 8 v.length with h | h
  · refine (Tryz.strings_IndexAny_long (zero_of_info (show (Tryz.prog.info? 89).map (fun i => (i.zero, i.size)) = some (some (.agg (Array.replicate 256 (.bool false))), 256) by kernel_rfl)).1 (bs v) ⟨#[46, 58]⟩ w (by decide) (by omega) (by omega) (by decide) (fun j b h => ?_)).mono fun e w' hh => ⟨by rw [hh.1, bs_data], by rw [hh.2]; exact ((Below.refl _ _).alloc (Nat.le_refl _) _).alloc (by simp) _⟩
    have : b ∈ ([46, 58] : List UInt8) := List.mem_of_getElem? h
    simp only [List.mem_cons, List.not_mem_nil, or_false] at this
    rcases this with rfl | rfl <;> decide
  · exact (idxAny_short (bs v) w (by omega)).mono fun e w' hh => ⟨by rw [hh.1, bs_data], hh.2⟩
set_option maxRecDepth 100000 in
set_option maxHeartbeats 4000000 in
theorem Label_all (q : Rq) (ad : Option Addr) (c : Nat) (w : World) (hs : SlH w q.hs ad c) (hq : SmallQ q) : Calls Tryz.prog 13 #[rqv q ad c] w (RetS (bs (labelS q)) w) := by
  have hSB := SB_eq
  have hMX := MX_eq
  have hR := Rws.start w
  have HG0 : ∀ u, Below w.heap.size w u → Calls Tryz.prog 16 #[rqv q ad c, .string ⟨#[104, 111, 115, 116]⟩] u (RetSl (getS q wHost) u) := fun u hb => Get_any q ad c wHost u (hs.grown hb) hq
  have hmem := fun v (h : v ∈ getS q wHost) => get_mem (q := q) (n := wHost) h
  cases hL : getS q wHost with
  | nil =>
    rw [hL] at HG0
    have HG := Lib.hid HG0
    have HB : Hid (labelS q = []) := Lib.hid (label_nil hL)
    clear hL HG0 hmem hs hq
    go_enter Tryz.func13, Tryz.ntmps13
    go_wp2_with (first
      | (refine wpList_box_rws rfl _ _ (by rfl) (by exact hR) (rqC q ad c) rfl ?_; intro gb w1 hR)
      | (refine wpList_load_rws rfl _ _ (by rfl) (by exact hR) gb rfl _ _ (by repeat (first | exact List.Mem.head _ | refine List.Mem.tail _ ?_)) _ Tryz.underlying24 rfl (by kernel_rfl) ?_)
      | (go_at_call 16; refine (HG.out _ hR.below).mono ?_; rintro e w2 ⟨al, cl, rfl, hsl, hb2⟩; have hR := hR.call hb2))
    go_ret
    rw [HB.out]
    exact ⟨rfl, hR.below⟩
  | cons v l =>
    obtain ⟨x, hx, _, hxv⟩ := hmem v (by rw [hL]; exact List.mem_cons_self ..)
    have hvl : v.length ≤ 1048576 := by rw [← hxv]; exact (hq.h x hx).2
    rw [hL] at HG0
    obtain ⟨m, hm⟩ : ∃ m, m = (v :: l).length := ⟨_, rfl⟩
    have hm0 : ((m : Int) == 0) = false := by rw [hm, List.length_cons]; simp; omega
    have hmz : (0 : Int) < (m : Int) := by rw [hm, List.length_cons]; omega
    have HG : Hid (∀ u, Below w.heap.size w u → Calls Tryz.prog 16 #[rqv q ad c, .string ⟨#[104, 111, 115, 116]⟩] u fun e w' => ∃ b c, e = .returned (.slice (some ⟨b, 0, none⟩) m c) ∧ m ≤ c ∧ c ≤ MX ∧ w'.cell? ⟨b, 0, none⟩ = some (.string (bs v)) ∧ Below u.heap.size u w') := Lib.hid fun u hb => (HG0 u hb).mono fun e w' hh => by
      obtain ⟨a, c, h1, ⟨h2, h3, h4⟩, h5⟩ := hh
      rcases h4 with h4 | ⟨b, h4, h6⟩
      · cases h4
      · subst h4
        exact ⟨b, c, by rw [hm]; exact h1, by rw [hm]; exact h2, h3, h6 0 _ rfl, h5⟩
    obtain ⟨T, hT⟩ : ∃ T, T = v.takeWhile sepN := ⟨_, rfl⟩
    have HB : Hid (labelS q = lowS T) := Lib.hid (by rw [label_cons hL, hT])
    have zv := bs_size v
    have HIX0 : ∀ u, Calls Tryz.prog 36 #[.string (bs v), .string ⟨#[46, 58]⟩] u fun e w' => e = .returned (.int .i64 (Lib.indexAny v [46, 58])) ∧ Below u.heap.size u w' := fun u => idxAny_any v u hvl
    have HLW : Hid (∀ u, Calls Tryz.prog 37 #[.string (bs T)] u (RetS (bs (lowS T)) u)) := Lib.hid fun u => lower_any T u (by rw [hT]; have := (List.takeWhile_prefix sepN (l := v)).length_le; omega)
    rcases idx_tw v with ⟨h1, h2⟩ | ⟨h1, h2⟩
    · rw [h1] at HIX0
      have HIX := Lib.hid HIX0
      rw [h2] at hT
      subst hT
      clear hL HG0 hmem hs hq hm HIX0 h1 h2 hx hxv
      go_enter Tryz.func13, Tryz.ntmps13
      go_wp2_with (first
        | (refine wpList_box_rws rfl _ _ (by rfl) (by exact hR) (rqC q ad c) rfl ?_; intro gb w1 hR)
        | (refine wpList_load_rws rfl _ _ (by rfl) (by exact hR) gb rfl _ _ (by repeat (first | exact List.Mem.head _ | refine List.Mem.tail _ ?_)) _ Tryz.underlying24 rfl (by kernel_rfl) ?_)
        | (go_at_call 16; refine (HG.out _ hR.below).mono ?_; rintro e w2 ⟨b, cl, rfl, hmc, hcm, f0, hb2⟩; have hR := hR.call hb2)
        | (go_at_call 36; refine (HIX.out _).mono ?_; rintro e w3 ⟨rfl, hb3⟩; have hR := hR.call hb3)
        | (go_at_call 37; refine (HLW.out _).mono ?_; rintro e w4 ⟨rfl, hb4⟩; have hR := hR.call hb4))
      go_ret
      rw [HB.out]
      exact ⟨rfl, hR.below⟩
    · rw [h1, ← hT] at HIX0
      have HIX := Lib.hid HIX0
      obtain ⟨k, hk⟩ : ∃ k, k = T.length := ⟨_, rfl⟩
      have hkz : (k : Int) ≤ (v.length : Int) := by rw [hk, hT]; omega
      have hk0 : (0 : Int) ≤ (k : Int) := by omega
      have xk : (bs v).extract 0 k = bs T := by
        rw [bs_cut, List.drop_zero, hk, hT]
        exact congrArg bs (List.prefix_iff_eq_take.1 (List.takeWhile_prefix sepN)).symm
      rw [← hk] at HIX
      clear hL HG0 hmem hs hq hm HIX0 h1 h2 hx hxv hT hk
      go_enter Tryz.func13, Tryz.ntmps13
      go_wp2_with (first
        | (refine wpList_box_rws rfl _ _ (by rfl) (by exact hR) (rqC q ad c) rfl ?_; intro gb w1 hR)
        | (refine wpList_load_rws rfl _ _ (by rfl) (by exact hR) gb rfl _ _ (by repeat (first | exact List.Mem.head _ | refine List.Mem.tail _ ?_)) _ Tryz.underlying24 rfl (by kernel_rfl) ?_)
        | (go_at_call 16; refine (HG.out _ hR.below).mono ?_; rintro e w2 ⟨b, cl, rfl, hmc, hcm, f0, hb2⟩; have hR := hR.call hb2)
        | (go_at_call 36; refine (HIX.out _).mono ?_; rintro e w3 ⟨rfl, hb3⟩; have hR := hR.call hb3)
        | (go_at_call 37; refine (HLW.out _).mono ?_; rintro e w4 ⟨rfl, hb4⟩; have hR := hR.call hb4))
      go_ret
      rw [HB.out]
      exact ⟨rfl, hR.below⟩
end Go.Proofs.YtipjkjcmceeaeaaGreatDoor
