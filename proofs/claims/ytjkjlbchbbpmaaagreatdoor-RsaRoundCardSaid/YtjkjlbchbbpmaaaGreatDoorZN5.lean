/- Text Text2 Pad, in one text. -/
import Derived.Test.YtjkjlbchbbpmaaaGreatDoorZN4
/- Numbers as texts: order, top byte: plain. -/
namespace Go.Proofs.YtjkjlbchbbpmaaaGreatDoor
open Go.RowKit

theorem cmp_bytes : ∀ l m : List UInt8, l.length = m.length → Lib.compareBytes l m = cmpN (bv l) (bv m)
  | [], [], _ => by simp [Lib.compareBytes, cmpN]
  | [], _ :: _, h => by simp at h
  | _ :: _, [], h => by simp at h
  | a :: l, b :: m, h => by
    have hl : l.length = m.length := by simpa using h
    have ih := cmp_bytes l m hl
    have h1 := bv_lt l
    have h2 := bv_lt m
    rw [Lib.compareBytes, bv_cons, bv_cons, ih]
    rw [hl] at h1 ⊢
    generalize 256 ^ m.length = P at *
    by_cases hab : a < b
    · rw [if_pos hab, cmpN_lt]
      have h3 : a.toNat + 1 ≤ b.toNat := hab
      have h4 := Nat.mul_le_mul_right P h3
      rw [Nat.add_mul] at h4
      omega
    · rw [if_neg hab]
      by_cases hba : b < a
      · rw [if_pos hba, cmpN_gt]
        have h3 : b.toNat + 1 ≤ a.toNat := hba
        have h4 := Nat.mul_le_mul_right P h3
        rw [Nat.add_mul] at h4
        omega
      · have hE : a = b := by
          have h3 : ¬ a.toNat < b.toNat := hab
          have h4 : ¬ b.toNat < a.toNat := hba
          exact UInt8.toNat_inj.1 (by omega)
        rw [if_neg hba, hE]
        unfold cmpN
        by_cases h5 : bv l < bv m
        · rw [if_pos h5, if_pos (by omega)]
        · by_cases h6 : bv l = bv m
          · rw [if_neg h5, if_pos h6, if_neg (by omega), if_pos (by omega)]
          · rw [if_neg h5, if_neg h6, if_neg (by omega), if_neg (by omega)]

/-- The top byte of a text, and how many binary digits there are. -/
theorem top_bits (v : Nat) (h : 0 < v) : ∃ (c : UInt8) (r : List UInt8), fm v = c :: r ∧ Dg.len 2 v = 8 * r.length + Dg.len 2 c.toNat := by
  match hf : fm v with
  | [] =>
    have h1 := bv_fm v
    rw [hf] at h1
    have h2 : bv [] = 0 := rfl
    omega
  | c :: r =>
    refine ⟨c, r, rfl, ?_⟩
    have h1 := bv_fm v
    rw [hf, bv_cons] at h1
    have h2 := bv_lt r
    have h3 : 256 ^ r.length = 2 ^ (8 * r.length) := by rw [show (256 : Nat) = 2 ^ 8 from rfl, ← Nat.pow_mul]
    rw [h3] at h1 h2
    have hl := fm_length v
    rw [hf] at hl
    have hc0 : 0 < c.toNat := by
      apply Nat.pos_of_ne_zero
      intro h0
      rw [h0, Nat.zero_mul, Nat.zero_add] at h1
      have h4 := (Dg.len_le_iff (B := 256) (by omega) v r.length).2 (by rw [← h1, h3]; exact h2)
      rw [← hl, List.length_cons] at h4
      omega
    have hP : 0 < 2 ^ (8 * r.length) := Nat.pow_pos (by omega)
    apply Dg.len_unique (B := 2) (by omega)
    · rw [Nat.pow_add, ← h1]
      have h5 := Dg.lt_pow_len (B := 2) (by omega) c.toNat
      have h6 : (c.toNat + 1) * 2 ^ (8 * r.length) ≤ 2 ^ Dg.len 2 c.toNat * 2 ^ (8 * r.length) := Nat.mul_le_mul_right _ h5
      rw [Nat.add_mul, Nat.one_mul] at h6
      rw [Nat.mul_comm (2 ^ (8 * r.length))]
      omega
    · right
      have h7 : 0 < Dg.len 2 c.toNat := (Dg.len_pos_iff (B := 2) (by omega) _).2 hc0
      have h8 : 8 * r.length + Dg.len 2 c.toNat - 1 = 8 * r.length + (Dg.len 2 c.toNat - 1) := by omega
      rw [h8, ← Dg.dg_div]
      have h9 : v / 2 ^ (8 * r.length) = c.toNat := by
        rw [← h1, Nat.add_comm, Nat.add_mul_div_right _ _ hP, Nat.div_eq_of_lt h2, Nat.zero_add]
      rw [h9]
      exact Dg.dg_top (B := 2) (by omega) hc0
end Go.Proofs.YtjkjlbchbbpmaaaGreatDoor
/- Bits, Cmp, Pad: the walks. -/
namespace Go.Proofs.YtjkjlbchbbpmaaaGreatDoor
open Go.RowKit

theorem str_size (l : List UInt8) : (ByteArray.mk l.toArray).size = l.length := by simp [ByteArray.size]

set_option maxRecDepth 100000 in
theorem Cmp_any (a b : ByteArray) (w : World) :
    Calls Tryz.prog 32 #[.string a, .string b] w fun e w' => e = .returned (.int .i64 (cmpN (nv a) (nv b))) ∧ ∃ q, w' = w.drewN q := by
  obtain ⟨la, hla⟩ : ∃ l, l = fm (nv a) := ⟨_, rfl⟩
  obtain ⟨lb, hlb⟩ : ∃ l, l = fm (nv b) := ⟨_, rfl⟩
  have HLA := Lib.hid hla; have HLB := Lib.hid hlb
  have hna : la.length = Dg.len 256 (nv a) := by rw [hla, fm_length]
  have hnb : lb.length = Dg.len 256 (nv b) := by rw [hlb, fm_length]
  have HNA := Lib.hid hna; have HNB := Lib.hid hnb
  clear hla hlb hna hnb
  obtain ⟨sa, hsa⟩ : ∃ s, s = ByteArray.mk la.toArray := ⟨_, rfl⟩
  obtain ⟨sb, hsb⟩ : ∃ s, s = ByteArray.mk lb.toArray := ⟨_, rfl⟩
  have ea : fm (bv a.data.toList) = la := HLA.out.symm
  have eb : fm (bv b.data.toList) = lb := HLB.out.symm
  have za : sa.size = la.length := by rw [hsa]; exact str_size la
  have zb : sb.size = lb.length := by rw [hsb]; exact str_size lb
  have da : sa.data.toList = la := by rw [hsa]
  have db : sb.data.toList = lb := by rw [hsb]
  have ca : ∀ w : World, Calls Tryz.prog 44 #[.string a] w fun e w' => e = .returned (.string sa) ∧ w = w' := fun w => by rw [hsa, ← ea]; exact Trim_any a w
  have cb : ∀ w : World, Calls Tryz.prog 44 #[.string b] w fun e w' => e = .returned (.string sb) ∧ w = w' := fun w => by rw [hsb, ← eb]; exact Trim_any b w
  have CA := Lib.hid ca; have CB := Lib.hid cb; have ZA := Lib.hid za; have ZB := Lib.hid zb; have DA := Lib.hid da; have DB := Lib.hid db
  clear hsa hsb ea eb za zb da db ca cb
  by_cases h1 : sa.size = sb.size
  · have hc : Lib.compareBytes la lb = cmpN (nv a) (nv b) := by
      rw [cmp_bytes la lb (by rw [← ZA.out, ← ZB.out]; exact h1), HLA.out, HLB.out, bv_fm, bv_fm]
    have HC := Lib.hid hc; clear hc
    go_enter Tryz.func32, Tryz.ntmps32
    go_wp2_with (first
      | (go_at_call_of 44 (Value.string a); refine (CA.out _).mono ?_; rintro e w' ⟨rfl, rfl⟩)
      | (go_at_call_of 44 (Value.string b); refine (CB.out _).mono ?_; rintro e w' ⟨rfl, rfl⟩)
      | (go_at_call 55; refine (Tryz.strings_Compare _ _ _).mono ?_; rintro e w' ⟨rfl, rfl⟩))
    go_ret
    exact ⟨ret_int (by rw [DA.out, DB.out, HC.out]), 0, rfl⟩
  · by_cases h2 : sa.size < sb.size
    · have hc : cmpN (nv a) (nv b) = -1 := cmpN_lt (Dg.lt_of_len (B := 256) (by omega) (by rw [← HNA.out, ← HNB.out, ← ZA.out, ← ZB.out]; exact h2))
      have HC := Lib.hid hc; clear hc
      go_enter Tryz.func32, Tryz.ntmps32
      go_wp2_with (first
        | (go_at_call_of 44 (Value.string a); refine (CA.out _).mono ?_; rintro e w' ⟨rfl, rfl⟩)
        | (go_at_call_of 44 (Value.string b); refine (CB.out _).mono ?_; rintro e w' ⟨rfl, rfl⟩))
      go_ret
      exact ⟨ret_int HC.out.symm, 0, rfl⟩
    · have hc : cmpN (nv a) (nv b) = 1 := cmpN_gt (Dg.lt_of_len (B := 256) (by omega) (by rw [← HNA.out, ← HNB.out, ← ZA.out, ← ZB.out]; omega))
      have HC := Lib.hid hc; clear hc
      go_enter Tryz.func32, Tryz.ntmps32
      go_wp2_with (first
        | (go_at_call_of 44 (Value.string a); refine (CA.out _).mono ?_; rintro e w' ⟨rfl, rfl⟩)
        | (go_at_call_of 44 (Value.string b); refine (CB.out _).mono ?_; rintro e w' ⟨rfl, rfl⟩))
      go_ret
      exact ⟨ret_int HC.out.symm, 0, rfl⟩

set_option maxRecDepth 100000 in
theorem Bits_any (a : ByteArray) (w : World) (ha : a.size ≤ 1152921504606846975) :
    Calls Tryz.prog 25 #[.string a] w fun e w' => e = .returned (.int .i64 (Dg.len 2 (nv a))) ∧ ∃ q, w' = w.drewN q := by
  obtain ⟨la, hla⟩ : ∃ l, l = fm (nv a) := ⟨_, rfl⟩
  have HLA := Lib.hid hla
  obtain ⟨sa, hsa⟩ : ∃ s, s = ByteArray.mk la.toArray := ⟨_, rfl⟩
  have ea : fm (bv a.data.toList) = la := HLA.out.symm
  have ca : ∀ w : World, Calls Tryz.prog 44 #[.string a] w fun e w' => e = .returned (.string sa) ∧ w = w' := fun w => by rw [hsa, ← ea]; exact Trim_any a w
  have CA := Lib.hid ca
  have za : sa.size = la.length := by rw [hsa]; exact str_size la
  clear hla ca ea
  by_cases h0 : nv a = 0
  · have hn : sa = ⟨#[]⟩ := by rw [hsa, HLA.out, h0, fm_zero]
    have hr : Dg.len 2 (nv a) = 0 := by rw [h0, Dg.len_zero]
    have HR := Lib.hid hr
    clear hsa h0 hr za
    subst hn
    go_enter Tryz.func25, Tryz.ntmps25
    go_wp2_with (go_at_call 44; refine (CA.out _).mono ?_; rintro e w' ⟨rfl, rfl⟩)
    go_ret
    exact ⟨ret_int (by rw [HR.out]; rfl), 0, rfl⟩
  · obtain ⟨c, r, hf, hl⟩ := top_bits (nv a) (by omega)
    have hlc : la = c :: r := by rw [HLA.out, hf]
    have hz : sa.size = r.length + 1 := by rw [za, hlc]; rfl
    have hne : sa.toList.isEmpty = false := by rw [Lib.toList_data, hsa]; show la.isEmpty = false; rw [hlc]; rfl
    have hsz : r.length + 1 ≤ 1152921504606846975 := by
      have h1 : Dg.len 256 (nv a) ≤ a.size := (Dg.len_le_iff (by omega) _ _).2 (by
        have h := bv_lt a.data.toList
        have e : a.data.toList.length = a.size := by simp
        rw [e] at h; exact h)
      have h2 := fm_length (nv a)
      rw [hf, List.length_cons] at h2
      omega
    have hcl : c.toNat < 256 := UInt8.toNat_lt _
    have hix : ∀ W : World, (Instr.index 9 (.string sa) (.int .i64 0)).run Tryz.prog W = .ok (.int .u8 (c.toNat : Nat)) W := fun W => by
      have h0 : 0 < sa.size := by omega
      have hg : sa[0]'h0 = c := by
        subst hsa
        show (la.toArray)[0]'_ = c
        simp [hlc]
      simp [Instr.index, asIntOf, run_underlying Tryz.underlying9, getElem?_pos sa 0 h0, hg]
    obtain ⟨cn, hcn⟩ : ∃ cn, cn = c.toNat := ⟨_, rfl⟩
    rw [← hcn] at hix hcl hl
    have hb : Lib.bitLen cn = Dg.len 2 cn := bitLen_len cn (by omega)
    have hb8 : Dg.len 2 cn ≤ 8 := (Dg.len_le_iff (by omega) cn 8).2 (by omega)
    have HL := Lib.hid hl; have HB := Lib.hid hb
    obtain ⟨n, hn⟩ : ∃ n, n = r.length := ⟨_, rfl⟩
    rw [← hn] at hz hsz
    have HN := Lib.hid hn
    clear hn hlc hf hl hb hcn hsa za h0
    go_enter Tryz.func25, Tryz.ntmps25
    go_wp2_with (first
      | (go_at_call 44; refine (CA.out _).mono ?_; rintro e w' ⟨rfl, rfl⟩)
      | (go_at_call 51; refine (Tryz.bits_LeadingZeros8 (cn : Int) _ (by omega) (by omega)).mono ?_; rintro e w' ⟨rfl, rfl⟩; rw [Int.toNat_natCast, HB.out]))
    go_ret
    exact ⟨ret_int (by rw [HL.out, ← HN.out]; omega), 0, rfl⟩
end Go.Proofs.YtjkjlbchbbpmaaaGreatDoor
/- Pad: the walk. -/
namespace Go.Proofs.YtjkjlbchbbpmaaaGreatDoor
open Go.RowKit

/-- What Pad answers. -/
def PadR (a : ByteArray) (n : Int) : List UInt8 × Int :=
  if n < 0 ∨ 512 < n ∨ n < (Dg.len 256 (nv a) : Int) then ([], 35) else (List.replicate (n.toNat - Dg.len 256 (nv a)) 0 ++ fm (nv a), 0)

theorem repeat_one (c : Nat) : Lib.repeatL [0] c = List.replicate c 0 := by
  induction c with
  | zero => rfl
  | succ c ih => rw [Lib.repeatL, ih]; rfl

theorem str_append (l m : List UInt8) : (ByteArray.mk l.toArray) ++ (ByteArray.mk m.toArray) = ByteArray.mk (l ++ m).toArray := by
  apply ByteArray.ext
  simp

set_option maxRecDepth 100000 in
set_option maxHeartbeats 1600000 in
theorem Pad_any (a : ByteArray) (n : Int) (w : World) (ha : a.size ≤ 9223372036854775807) :
    Calls Tryz.prog 20 #[.string a, .int .i64 n] w fun e w' => e = ret2 (PadR a n).1 (PadR a n).2 ∧ Below w.heap.size w w' := by
  obtain ⟨la, hla⟩ : ∃ l, l = fm (nv a) := ⟨_, rfl⟩
  have HLA := Lib.hid hla
  obtain ⟨sa, hsa⟩ : ∃ s, s = ByteArray.mk la.toArray := ⟨_, rfl⟩
  have ea : fm (bv a.data.toList) = la := HLA.out.symm
  have ca : ∀ w : World, Calls Tryz.prog 44 #[.string a] w fun e w' => e = .returned (.string sa) ∧ w = w' := fun w => by rw [hsa, ← ea]; exact Trim_any a w
  have CA := Lib.hid ca
  have hzl : la.length = Dg.len 256 (nv a) := by rw [hla, fm_length]
  obtain ⟨L, hL⟩ : ∃ L, L = Dg.len 256 (nv a) := ⟨_, rfl⟩
  have hz : sa.size = L := by rw [hsa, hL, ← hzl]; exact str_size la
  have hLs : L ≤ a.size := by
    rw [hL]
    exact (Dg.len_le_iff (by omega) _ _).2 (by
      have h := bv_lt a.data.toList
      have e : a.data.toList.length = a.size := by simp
      rw [e] at h; exact h)
  have HPD := Lib.hid (show PadR a n = if n < 0 ∨ 512 < n ∨ n < (L : Int) then ([], 35) else (List.replicate (n.toNat - L) 0 ++ la, 0) by unfold PadR; rw [hL, hla])
  have HSA := Lib.hid hsa
  clear hla ca ea hsa hzl hL
  by_cases h0 : n < 0
  · have hR : PadR a n = ([], 35) := by rw [HPD.out, if_pos (Or.inl h0)]
    have HR := Lib.hid hR; clear hR
    go_enter Tryz.func20, Tryz.ntmps20
    go_wp2_with (go_at_call 44; refine (CA.out _).mono ?_; rintro e w' ⟨rfl, rfl⟩)
    go_ret2
    exact ⟨by rw [HR.out]; rfl, Below.refl _ _⟩
  · by_cases h5 : 512 < n
    · have hR : PadR a n = ([], 35) := by rw [HPD.out, if_pos (Or.inr (Or.inl h5))]
      have HR := Lib.hid hR; clear hR
      go_enter Tryz.func20, Tryz.ntmps20
      go_wp2_with (go_at_call 44; refine (CA.out _).mono ?_; rintro e w' ⟨rfl, rfl⟩)
      go_ret2
      exact ⟨by rw [HR.out]; rfl, Below.refl _ _⟩
    · by_cases hl : n < (L : Int)
      · have hR : PadR a n = ([], 35) := by rw [HPD.out, if_pos (Or.inr (Or.inr hl))]
        have HR := Lib.hid hR; clear hR
        go_enter Tryz.func20, Tryz.ntmps20
        go_wp2_with (go_at_call 44; refine (CA.out _).mono ?_; rintro e w' ⟨rfl, rfl⟩)
        go_ret2
        exact ⟨by rw [HR.out]; rfl, Below.refl _ _⟩
      · obtain ⟨k, rfl⟩ := Int.eq_ofNat_of_zero_le (by omega : 0 ≤ n)
        have hR : PadR a k = (List.replicate (k - L) 0 ++ la, 0) := by rw [HPD.out, if_neg (by omega)]; simp
        have HR := Lib.hid hR; clear hR
        obtain ⟨d, rfl⟩ : ∃ d, k = L + d := ⟨k - L, by omega⟩
        have hd : (L : Int) + (d : Int) - (L : Int) = (d : Nat) := by omega
        go_enter Tryz.func20, Tryz.ntmps20
        go_wp2_with (go_at_call 44; refine (CA.out _).mono ?_; rintro e w' ⟨rfl, rfl⟩)
        refine (Tryz.strings_Repeat ⟨#[0]⟩ d _ (by omega) (by show 1 * d ≤ _; omega)).mono ?_
        rintro e w2 ⟨rfl, hb2⟩
        obtain ⟨sr, hsr⟩ : ∃ s, s = ByteArray.mk (Lib.repeatL (ByteArray.mk #[0]).data.toList d).toArray := ⟨_, rfl⟩
        rw [← hsr]
        have hzr : sr.size = d := by rw [hsr, str_size, show (ByteArray.mk #[0]).data.toList = [0] from rfl, repeat_one]; simp
        have hsum : sr ++ sa = ⟨(List.replicate d 0 ++ la).toArray⟩ := by
          rw [hsr, HSA.out, str_append, show (ByteArray.mk #[0]).data.toList = [0] from rfl, repeat_one]
        have HSUM := Lib.hid hsum
        have hcat : ∀ w : World, (Op.stringOp .add sr sa).run Tryz.prog w = .ok (.string (sr ++ sa)) w := fun w => run_string_add_sum w sr sa (by omega)
        clear hsum hsr
        go_wp2_with fail
        go_ret2
        exact ⟨by rw [HR.out, HSUM.out, Nat.add_sub_cancel_left]; rfl, hb2⟩
end Go.Proofs.YtjkjlbchbbpmaaaGreatDoor
