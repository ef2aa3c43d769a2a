/- http.Label, ostiaryref15.Label: the walks (of hosts whose bytes are below 128). -/
import Derived.Test.YtipjkjcmceeaeaaGreatDoorYGet
import Derived.Test.YtipjkjcmceeaeaaGreatDoorYGw
namespace Go.Proofs.YtipjkjcmceeaeaaGreatDoor
open Go.RowKit

def sepN (c : UInt8) : Bool := !(decide (c.toNat = 46) || decide (c.toNat = 58))
theorem sep_has (c : UInt8) : ([46, 58] : List UInt8).contains c = !sepN c := every_byte (P := fun c => ([46, 58] : List UInt8).contains c = !sepN c) (by decide +kernel) c
theorem idx_tw : ∀ v : Bs, (Lib.indexAny v [46, 58] = -1 ∧ v.takeWhile sepN = v) ∨ (Lib.indexAny v [46, 58] = ((v.takeWhile sepN).length : Nat) ∧ (v.takeWhile sepN).length < v.length)
  | [] => Or.inl ⟨rfl, rfl⟩
  | b :: l => by
    have hc := sep_has b
    unfold Lib.indexAny
    rw [List.takeWhile_cons]
    cases hs : sepN b with
    | false =>
      rw [hs] at hc
      have hc : ([46, 58] : List UInt8).contains b = true := hc
      rw [if_pos hc]
      exact Or.inr ⟨rfl, by simp⟩
    | true =>
      rw [hs] at hc
      rw [if_neg (by rw [hc]; decide), if_pos rfl]
      rcases idx_tw l with ⟨h1, h2⟩ | ⟨h1, h2⟩
      · left
        rw [h1, h2]
        exact ⟨rfl, rfl⟩
      · right
        rw [h1, if_neg (by simp)]
        refine ⟨by first | rfl | (rw [List.length_cons]; done) | (rw [List.length_cons]; omega), by rw [List.length_cons, List.length_cons]; omega⟩
theorem label_nil {q : Rq} (h : getS q wHost = []) : labelS q = [] := by unfold labelS; rw [h]
theorem label_cons {q : Rq} {v : Bs} {l : List Bs} (h : getS q wHost = v :: l) : labelS q = lowS (v.takeWhile sepN) := by unfold labelS; rw [h]; rfl
theorem get_mem {q : Rq} {n v : Bs} (h : v ∈ getS q n) : ∃ x, x ∈ q.hs ∧ x.1 = n ∧ x.2 = v := by
  unfold getS at h
  obtain ⟨x, hx, rfl⟩ := List.mem_map.1 h
  obtain ⟨h1, h2⟩ := List.mem_filter.1 hx
  exact ⟨x, h1, of_decide_eq_true h2, rfl⟩
/-- The first host's bytes are below 128. -/
def LabOk (q : Rq) : Prop := ∀ v l, getS q wHost = v :: l → ∀ c ∈ v, c.toNat < 128
theorem ho_128 {c : UInt8} (h : hoC c = true) : c.toNat < 128 := by
  have key : ∀ k : Fin 256, hoC (UInt8.ofNat k.val) = true → (UInt8.ofNat k.val).toNat < 128 := by decide +kernel
  exact every_byte (P := fun c => hoC c = true → c.toNat < 128) key c h
theorem lab_form {q : Rq} (h : formB q = true) : LabOk q := fun v l hg c hc => by
  obtain ⟨x, hx, h1, h2⟩ := get_mem (q := q) (n := wHost) (v := v) (by rw [hg]; exact List.mem_cons_self ..)
  unfold formB at h
  simp only [Bool.and_eq_true, List.all_eq_true] at h
  have hf := h.1.2 x hx
  unfold fieldB at hf
  rw [decide_eq_true h1] at hf
  simp only [Bool.and_eq_true, Bool.not_true, Bool.false_or] at hf
  have ho := hf.1.1.1.2
  unfold ofB at ho
  simp only [Bool.and_eq_true, List.all_eq_true] at ho
  exact ho_128 (ho.1.1 c (by rw [h2]; exact hc))
set_option maxRecDepth 100000 in
set_option maxHeartbeats 4000000 in
theorem Label_any (q : Rq) (ad : Option Addr) (c : Nat) (w : World) (hs : SlH w q.hs ad c) (hq : SmallQ q) (ho : LabOk q) : Calls Tryz.prog 13 #[rqv q ad c] w (RetS (bs (labelS q)) w) := by
  have hSB := SB_eq
  have hMX := MX_eq
  have hR := Rws.start w
  have HG0 : ∀ u, Below w.heap.size w u → Calls Tryz.prog 16 #[rqv q ad c, .string ⟨#[104, 111, 115, 116]⟩] u (RetSl (getS q wHost) u) := fun u hb => Get_any q ad c wHost u (hs.grown hb) hq
  have hmem := fun v (h : v ∈ getS q wHost) => get_mem (q := q) (n := wHost) h
  cases hL : getS q wHost with
  | nil =>
    rw [hL] at HG0
    have HG := Lib.hid HG0
    have HB : Hid (labelS q = []) := Lib.hid (label_nil hL)
    clear hL HG0 hmem hs hq ho
    go_enter Tryz.func13, Tryz.ntmps13
    go_wp2_with (first
      | (refine wpList_box_rws rfl _ _ (by rfl) (by exact hR) (rqC q ad c) rfl ?_; intro gb w1 hR)
      | (refine wpList_load_rws rfl _ _ (by rfl) (by exact hR) gb rfl _ _ (by repeat (first | exact List.Mem.head _ | refine List.Mem.tail _ ?_)) _ Tryz.underlying24 rfl (by kernel_rfl) ?_)
      | (go_at_call 16; refine (HG.out _ hR.below).mono ?_; rintro e w2 ⟨al, cl, rfl, hsl, hb2⟩; have hR := hR.call hb2))
    go_ret
    rw [HB.out]
    exact ⟨rfl, hR.below⟩
  | cons v l =>
    obtain ⟨x, hx, _, hxv⟩ := hmem v (by rw [hL]; exact List.mem_cons_self ..)
    have hvl : v.length ≤ 1048576 := by rw [← hxv]; exact (hq.h x hx).2
    have hv128 := ho v l hL
    rw [hL] at HG0
    obtain ⟨m, hm⟩ : ∃ m, m = (v :: l).length := ⟨_, rfl⟩
    have hm0 : ((m : Int) == 0) = false := by rw [hm, List.length_cons]; simp; omega
    have hmz : (0 : Int) < (m : Int) := by rw [hm, List.length_cons]; omega
    have HG : Hid (∀ u, Below w.heap.size w u → Calls Tryz.prog 16 #[rqv q ad c, .string ⟨#[104, 111, 115, 116]⟩] u fun e w' => ∃ b c, e = .returned (.slice (some ⟨b, 0, none⟩) m c) ∧ m ≤ c ∧ c ≤ MX ∧ w'.cell? ⟨b, 0, none⟩ = some (.string (bs v)) ∧ Below u.heap.size u w') := Lib.hid fun u hb => (HG0 u hb).mono fun e w' hh => by
      obtain ⟨a, c, h1, ⟨h2, h3, h4⟩, h5⟩ := hh
      rcases h4 with h4 | ⟨b, h4, h6⟩
      · cases h4
      · subst h4
        exact ⟨b, c, by rw [hm]; exact h1, by rw [hm]; exact h2, h3, h6 0 _ rfl, h5⟩
    obtain ⟨T, hT⟩ : ∃ T, T = v.takeWhile sepN := ⟨_, rfl⟩
    have HB : Hid (labelS q = lowS T) := Lib.hid (by rw [label_cons hL, hT])
    have zv := bs_size v
    have HIX0 : ∀ u, Calls Tryz.prog 36 #[.string (bs v), .string ⟨#[46, 58]⟩] u fun e w' => e = .returned (.int .i64 (Lib.indexAny v [46, 58])) ∧ Below u.heap.size u w' := fun u => Tryz.strings_IndexAny_laid (bs v) ⟨#[46, 58]⟩ u (by rw [bs_size]; omega) (by decide) (fun j b h => hv128 b (List.mem_of_getElem? h)) (fun j b h => by
      have : b ∈ ([46, 58] : List UInt8) := List.mem_of_getElem? h
      simp only [List.mem_cons, List.not_mem_nil, or_false] at this
      rcases this with rfl | rfl <;> decide)
    have HLW : Hid (∀ u, Calls Tryz.prog 37 #[.string (bs T)] u (RetS (bs (lowS T)) u)) := Lib.hid fun u => lower_any T u (by rw [hT]; have := (List.takeWhile_prefix sepN (l := v)).length_le; omega)
    rcases idx_tw v with ⟨h1, h2⟩ | ⟨h1, h2⟩
    · rw [h1] at HIX0
      have HIX := Lib.hid HIX0
      rw [h2] at hT
      subst hT
      clear hL HG0 hmem hs hq ho hm HIX0 h1 h2 hx hxv hv128
      go_enter Tryz.func13, Tryz.ntmps13
      go_wp2_with (first
        | (refine wpList_box_rws rfl _ _ (by rfl) (by exact hR) (rqC q ad c) rfl ?_; intro gb w1 hR)
        | (refine wpList_load_rws rfl _ _ (by rfl) (by exact hR) gb rfl _ _ (by repeat (first | exact List.Mem.head _ | refine List.Mem.tail _ ?_)) _ Tryz.underlying24 rfl (by kernel_rfl) ?_)
        | (go_at_call 16; refine (HG.out _ hR.below).mono ?_; rintro e w2 ⟨b, cl, rfl, hmc, hcm, f0, hb2⟩; have hR := hR.call hb2)
        | (go_at_call 36; refine (HIX.out _).mono ?_; rintro e w3 ⟨rfl, hb3⟩; have hR := hR.call hb3)
        | (go_at_call 37; refine (HLW.out _).mono ?_; rintro e w4 ⟨rfl, hb4⟩; have hR := hR.call hb4))
      go_ret
      rw [HB.out]
      exact ⟨rfl, hR.below⟩
    · rw [h1, ← hT] at HIX0
      have HIX := Lib.hid HIX0
      obtain ⟨k, hk⟩ : ∃ k, k = T.length := ⟨_, rfl⟩
      have hkz : (k : Int) ≤ (v.length : Int) := by rw [hk, hT]; omega
      have hk0 : (0 : Int) ≤ (k : Int) := by omega
      have xk : (bs v).extract 0 k = bs T := by
        rw [bs_cut, List.drop_zero, hk, hT]
        exact congrArg bs (List.prefix_iff_eq_take.1 (List.takeWhile_prefix sepN)).symm
      rw [← hk] at HIX
      clear hL HG0 hmem hs hq ho hm HIX0 h1 h2 hx hxv hv128 hT hk
      go_enter Tryz.func13, Tryz.ntmps13
      go_wp2_with (first
        | (refine wpList_box_rws rfl _ _ (by rfl) (by exact hR) (rqC q ad c) rfl ?_; intro gb w1 hR)
        | (refine wpList_load_rws rfl _ _ (by rfl) (by exact hR) gb rfl _ _ (by repeat (first | exact List.Mem.head _ | refine List.Mem.tail _ ?_)) _ Tryz.underlying24 rfl (by kernel_rfl) ?_)
        | (go_at_call 16; refine (HG.out _ hR.below).mono ?_; rintro e w2 ⟨b, cl, rfl, hmc, hcm, f0, hb2⟩; have hR := hR.call hb2)
        | (go_at_call 36; refine (HIX.out _).mono ?_; rintro e w3 ⟨rfl, hb3⟩; have hR := hR.call hb3)
        | (go_at_call 37; refine (HLW.out _).mono ?_; rintro e w4 ⟨rfl, hb4⟩; have hR := hR.call hb4))
      go_ret
      rw [HB.out]
      exact ⟨rfl, hR.below⟩
set_option maxRecDepth 100000 in
set_option maxHeartbeats 4000000 in
theorem LabelR_any (q : Rq) (ad : Option Addr) (c : Nat) (w : World) (hs : SlH w q.hs ad c) (hq : SmallQ q) : Calls Tryz.prog 14 #[rqv q ad c] w (RetS (bs (labelS q)) w) := by
  have hSB := SB_eq
  have hMX := MX_eq
  have hR := Rws.start w
  have HG0 : ∀ u, Below w.heap.size w u → Calls Tryz.prog 17 #[rqv q ad c, .string ⟨#[104, 111, 115, 116]⟩] u (RetSl (getS q wHost) u) := fun u hb => GetR_any q ad c wHost u (hs.grown hb) hq
  have hmem := fun v (h : v ∈ getS q wHost) => get_mem (q := q) (n := wHost) h
  cases hL : getS q wHost with
  | nil =>
    rw [hL] at HG0
    have HG := Lib.hid HG0
    have HB : Hid (labelS q = []) := Lib.hid (label_nil hL)
    clear hL HG0 hmem hs hq
    go_enter Tryz.func14, Tryz.ntmps14
    go_wp2_with (first
      | (refine wpList_box_rws rfl _ _ (by rfl) (by exact hR) (rqC q ad c) rfl ?_; intro gb w1 hR)
      | (refine wpList_load_rws rfl _ _ (by rfl) (by exact hR) gb rfl _ _ (by repeat (first | exact List.Mem.head _ | refine List.Mem.tail _ ?_)) _ Tryz.underlying24 rfl (by kernel_rfl) ?_)
      | (go_at_call 17; refine (HG.out _ hR.below).mono ?_; rintro e w2 ⟨al, cl, rfl, hsl, hb2⟩; have hR := hR.call hb2))
    go_ret
    rw [HB.out]
    exact ⟨rfl, hR.below⟩
  | cons v l =>
    obtain ⟨x, hx, _, hxv⟩ := hmem v (by rw [hL]; exact List.mem_cons_self ..)
    have hvl : v.length ≤ 1048576 := by rw [← hxv]; exact (hq.h x hx).2
    rw [hL] at HG0
    obtain ⟨m, hm⟩ : ∃ m, m = (v :: l).length := ⟨_, rfl⟩
    have hm0 : ((m : Int) == 0) = false := by rw [hm, List.length_cons]; simp; omega
    have hmz : (0 : Int) < (m : Int) := by rw [hm, List.length_cons]; omega
    have HG : Hid (∀ u, Below w.heap.size w u → Calls Tryz.prog 17 #[rqv q ad c, .string ⟨#[104, 111, 115, 116]⟩] u fun e w' => ∃ b c, e = .returned (.slice (some ⟨b, 0, none⟩) m c) ∧ m ≤ c ∧ c ≤ MX ∧ w'.cell? ⟨b, 0, none⟩ = some (.string (bs v)) ∧ Below u.heap.size u w') := Lib.hid fun u hb => (HG0 u hb).mono fun e w' hh => by
      obtain ⟨a, c, h1, ⟨h2, h3, h4⟩, h5⟩ := hh
      rcases h4 with h4 | ⟨b, h4, h6⟩
      · cases h4
      · subst h4
        exact ⟨b, c, by rw [hm]; exact h1, by rw [hm]; exact h2, h3, h6 0 _ rfl, h5⟩
    obtain ⟨T, hT⟩ : ∃ T, T = v.takeWhile sepN := ⟨_, rfl⟩
    have HB : Hid (labelS q = lowS T) := Lib.hid (by rw [label_cons hL, hT])
    have zv := bs_size v
    have HLW : Hid (∀ u, Calls Tryz.prog 38 #[.string (bs T)] u (RetS (bs (lowS T)) u)) := Lib.hid fun u => Lower_any T u (by rw [hT]; have := (List.takeWhile_prefix sepN (l := v)).length_le; omega)
    have HT := Lib.hid hT
    clear hL HG0 hmem hs hq hm hx hxv hT
    go_enter Tryz.func14, Tryz.ntmps14
    go_upto_region 5 with (first
      | (refine wpList_box_rws rfl _ _ (by rfl) (by exact hR) (rqC q ad c) rfl ?_; intro gb w1 hR)
      | (refine wpList_load_rws rfl _ _ (by rfl) (by exact hR) gb rfl _ _ (by repeat (first | exact List.Mem.head _ | refine List.Mem.tail _ ?_)) _ Tryz.underlying24 rfl (by kernel_rfl) ?_)
      | (go_at_call 17; refine (HG.out _ hR.below).mono ?_; rintro e w2 ⟨b, cl, rfl, hmc, hcm, f0, hb2⟩; have hR := hR.call hb2))
    have HRB := Lib.hid hR.below
    clear hR hb2
    go_loopg [4] v.length (fun gg s4 wr => ∃ k, k ≤ v.length ∧ gg = v.length - k ∧ s4 = .int .i64 (k : Nat) ∧ Aside (T = v.take k ++ (v.drop k).takeWhile sepN) ∧ wr = w2)
    case atStart => exact ⟨0, Nat.zero_le _, rfl, rfl, HT.out, rfl⟩
    case round =>
      obtain ⟨k, hkl, rfl, rfl, HA, rfl⟩ := hrel
      by_cases hlt : k < v.length
      · have hltz : (k : Int) < (v.length : Int) := by omega
        have hkz : (k : Int) ≤ (v.length : Int) := by omega
        obtain ⟨x, hx⟩ : ∃ x, v[k]? = some x := ⟨v[k], List.getElem?_eq_getElem hlt⟩
        have hg := bs_get v k x hx
        have hdr : v.drop k = x :: v.drop (k + 1) := by
          obtain ⟨hi, e⟩ := List.getElem?_eq_some_iff.1 hx
          rw [← e]; exact List.drop_eq_getElem_cons hi
        have htk : v.take (k + 1) = v.take k ++ [x] := by
          obtain ⟨hi, e⟩ := List.getElem?_eq_some_iff.1 hx
          rw [List.take_succ_eq_append_getElem hi, e]
        cases hsx : sepN x with
        | true =>
          have h46 : ((x.toNat : Int) != 46) = true := by
            unfold sepN at hsx; simp at hsx; have := hsx.1; simp; omega
          have h58 : ((x.toNat : Int) != 58) = true := by
            unfold sepN at hsx; simp at hsx; have := hsx.2; simp; omega
          have HA2 : Hid (T = v.take (k + 1) ++ (v.drop (k + 1)).takeWhile sepN) := Lib.hid (by
            rw [HA.out, hdr, List.takeWhile_cons, hsx, if_pos rfl, htk, List.append_assoc]; rfl)
          clear hx hdr htk hsx
          go_wp2_with fail
          go_roundg (v.length - (k + 1))
          case measure => omega
          case rel => exact ⟨k + 1, by omega, rfl, by go_num, HA2.out, rfl⟩
        | false =>
          have HA2 : Hid (T = v.take k) := Lib.hid (by rw [HA.out, hdr, List.takeWhile_cons, hsx]; simp)
          have xk : (bs v).extract 0 k = bs T := by rw [bs_cut, List.drop_zero, HA2.out]
          have hor : ((x.toNat : Int) != 46) = false ∨ (((x.toNat : Int) != 46) = true ∧ ((x.toNat : Int) != 58) = false) := by
            unfold sepN at hsx
            by_cases h : x.toNat = 46
            · left; rw [h]; rfl
            · right
              have h2 : x.toNat = 58 := by simpa [h] using hsx
              refine ⟨by simp; omega, by rw [h2]; rfl⟩
          clear hx hdr htk hsx
          rcases hor with h46 | ⟨h46, h58⟩
          all_goals
            go_wp2_with (go_at_call 38; refine (HLW.out _).mono ?_; rintro e w4 ⟨rfl, hb4⟩; have hB4 := HRB.out.trans (hb4.mono HRB.out.size))
            go_ret
            rw [HB.out]
            exact ⟨rfl, hB4⟩
      · have hltz : ¬ (k : Int) < (v.length : Int) := by omega
        have hkz : (k : Int) ≤ (v.length : Int) := by omega
        have HA2 : Hid (T = v.take k) := Lib.hid (by rw [HA.out, List.drop_of_length_le (by omega)]; simp)
        have xk : (bs v).extract 0 k = bs T := by rw [bs_cut, List.drop_zero, HA2.out]
        go_wp2_with (go_at_call 38; refine (HLW.out _).mono ?_; rintro e w4 ⟨rfl, hb4⟩; have hB4 := HRB.out.trans (hb4.mono HRB.out.size))
        go_ret
        rw [HB.out]
        exact ⟨rfl, hB4⟩
end Go.Proofs.YtipjkjcmceeaeaaGreatDoor
