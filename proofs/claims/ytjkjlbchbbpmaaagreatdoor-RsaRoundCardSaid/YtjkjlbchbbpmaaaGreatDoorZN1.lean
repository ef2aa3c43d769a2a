/- Trim Cmp Bits Add Sub Mul Take Shl, in one text. -/
import Derived.Test.YtjkjlbchbbpmaaaGreatDoorZB
import Derived.Test.YtjkjlbchbbpmaaaGreatDoorZP
import Derived.BigQuiet
import Derived.Deep.QuietTactic
import Derived.StillTailTactics
/- limbs.trim and limbs.cmp: walks. -/
namespace Go.Proofs.YtjkjlbchbbpmaaaGreatDoor
open Go.RowKit

/-- How many digits are left without the noughts above. -/
def tl (f : Nat → Nat) : Nat → Nat
  | 0 => 0
  | n + 1 => if f n = 0 then tl f n else n + 1

theorem tl_le (f : Nat → Nat) : ∀ n, tl f n ≤ n
  | 0 => Nat.le_refl _
  | n + 1 => by
    unfold tl; split
    · have := tl_le f n; omega
    · omega

/-- A callee that leaves the world alone, in a region that only reads. -/
theorem quiet_same {P : Program} {f : FuncId} {args : Array Value} {w : World} {n : Nat} {v : Value}
    (h : Calls P f args (w.drewN n) fun e w' => e = .returned v ∧ w.drewN n = w') : Calls P f args (w.drewN n) fun e w'' => e = .returned v ∧ ∃ m, w'' = w.drewN m :=
  h.mono fun _ _ ⟨he, hm⟩ => ⟨he, n, hm.symm⟩
theorem quiet_drawn {P : Program} {f : FuncId} {args : Array Value} {w : World} {n : Nat} {v : Value}
    (h : Calls P f args (w.drewN n) fun e w' => e = .returned v ∧ ∃ q, w' = (w.drewN n).drewN q) : Calls P f args (w.drewN n) fun e w'' => e = .returned v ∧ ∃ m, w'' = w.drewN m :=
  Calls.quiet_of h

set_option maxRecDepth 100000 in
theorem trim_any (ao : Option Addr) (n cap : Nat) (f : Nat → Nat) (w : World) (hr : Rd w .u32 ao n cap f) :
    Calls Tryz.prog 77 #[.slice ao n cap] w fun e w' => e = .returned (.slice ao (tl f n) cap) ∧ w = w' := by
  have hle := hr.le
  have hcm := hr.cm
  go_enter Tryz.func77, Tryz.ntmps77
  go_wp2
  go_loop [0] (fun v => ∃ m : Nat, m ≤ n ∧ v = .slice ao m cap ∧ tl f m = tl f n) (fun v => slLen v)
  case atStart => exact ⟨n, Nat.le_refl _, rfl, rfl⟩
  case round =>
    obtain ⟨m, hm, rfl, ht⟩ := hrel
    have HT := Lib.hid ht; clear ht
    have hs := hr.sh.mono hm
    by_cases h0 : 0 < m
    · obtain ⟨k, rfl⟩ : ∃ k, m = k + 1 := ⟨m - 1, by omega⟩
      have hc : w.cell? ⟨blk ao, off ao + k, none⟩ = some (.int .u32 (f k : Nat)) := hr.cell _ (by omega)
      go_wp2
      · have hz : ((f k : Int) == 0) = true := by assumption
        have hz' : f k = 0 := by simpa using hz
        go_round
        case rel => exact ⟨k, by omega, rfl, by rw [← HT.out, tl, if_pos hz']⟩
        case measure => simp [slLen]
      · have hz : ((f k : Int) == 0) = false := by assumption
        have hz' : ¬ f k = 0 := by simpa using hz
        go_ret
        exact ⟨ret_slice (by rw [← HT.out, tl, if_neg hz']) rfl, rfl⟩
    · obtain rfl : m = 0 := by omega
      go_wp2
      go_ret
      exact ⟨ret_slice HT.out rfl, rfl⟩
end Go.Proofs.YtjkjlbchbbpmaaaGreatDoor
/- limbs.cmp: the walk. -/
namespace Go.Proofs.YtjkjlbchbbpmaaaGreatDoor
open Go.RowKit

/-- The base of the limbs. (A plain name: the numeral stays out of the walks.) -/
def LB : Nat := 4294967296
theorem LB_eq : LB = 4294967296 := rfl
theorem LB2 : 2 ≤ LB := by rw [LB_eq]; omega

/-- The slice reads as the number v, without noughts above. -/
structure Num (w : World) (ao : Option Addr) (n cap v : Nat) : Prop where
  len : n = Dg.len LB v
  rd : Rd w .u32 ao n cap (Dg.dg LB v)

theorem Num.below {w w' : World} {B : Nat} {ao : Option Addr} {n cap v : Nat} (h : Num w ao n cap v) (hb : Below B w w') (hB : w.heap.size ≤ B) : Num w' ao n cap v := ⟨h.len, h.rd.below hb hB⟩
theorem Num.drewN {w : World} {ao : Option Addr} {n cap v : Nat} (h : Num w ao n cap v) (q : Nat) : Num (w.drewN q) ao n cap v := ⟨h.len, h.rd.sh, h.rd.le, h.rd.cm, fun j hj => h.rd.cell j hj⟩
theorem Num.lt {w : World} {ao : Option Addr} {n cap v : Nat} (h : Num w ao n cap v) : v < LB ^ n := by rw [h.len]; exact Dg.lt_pow_len LB2 v

/-- Order as Go tells it. -/
def cmpN (a b : Nat) : Int := if a < b then -1 else if a = b then 0 else 1
theorem cmpN_lt {a b : Nat} (h : a < b) : cmpN a b = -1 := by simp [cmpN, h]
theorem cmpN_eq (a : Nat) : cmpN a a = 0 := by simp [cmpN]
theorem cmpN_gt {a b : Nat} (h : b < a) : cmpN a b = 1 := by
  have h1 : ¬ a < b := by omega
  have h2 : ¬ a = b := by omega
  simp [cmpN, h1, h2]

set_option maxRecDepth 100000 in
theorem cmp_any (ao bo : Option Addr) (n c m d a b : Nat) (w : World) (ha : Num w ao n c a) (hb : Num w bo m d b) :
    Calls Tryz.prog 72 #[.slice ao n c, .slice bo m d] w fun e w' => e = .returned (.int .i64 (cmpN a b)) ∧ ∃ q, w' = w.drewN q := by
  have hn := Nat.le_trans ha.rd.le ha.rd.cm
  have hm := Nat.le_trans hb.rd.le hb.rd.cm
  by_cases hnm : n < m
  · have hr : cmpN a b = -1 := cmpN_lt (Dg.lt_of_len LB2 (by rw [← ha.len, ← hb.len]; exact hnm))
    have HR := Lib.hid hr; clear hr
    go_enter Tryz.func72, Tryz.ntmps72
    go_wp2
    go_ret
    exact ⟨ret_int (by rw [HR.out]), 0, rfl⟩
  · by_cases hmn : m < n
    · have hr : cmpN a b = 1 := cmpN_gt (Dg.lt_of_len LB2 (by rw [← ha.len, ← hb.len]; exact hmn))
      have HR := Lib.hid hr; clear hr
      go_enter Tryz.func72, Tryz.ntmps72
      go_wp2
      go_ret
      exact ⟨ret_int (by rw [HR.out]), 0, rfl⟩
    · obtain rfl : n = m := by omega
      have hla := ha.lt
      have hlb := hb.lt
      have HLA := Lib.hid hla; clear hla
      have HLB := Lib.hid hlb; clear hlb
      clear hnm hmn
      go_enter Tryz.func72, Tryz.ntmps72
      go_wp2
      go_loopw [5] (fun i wr => ∃ (x : Int) (q : Nat), -1 ≤ x ∧ x < n ∧ i = .int .i64 x ∧ wr = w.drewN q ∧ ∀ j : Nat, x < j → j < n → Dg.dg LB a j = Dg.dg LB b j) (fun i _ => (intOf i + 1).toNat)
      case atStart => exact ⟨_, 0, by omega, by omega, rfl, rfl, fun j h1 h2 => absurd h1 (by omega)⟩
      case round =>
        obtain ⟨x, q, hx1, hx2, rfl, rfl, he⟩ := hrel
        have HE := Lib.hid he; clear he
        by_cases h0 : x < 0
        · go_wp2
          go_ret
          have hab : a = b := Dg.ext n HLA.out HLB.out fun j hj => HE.out j (by omega) hj
          exact ⟨ret_int (by rw [hab, cmpN_eq]), q, rfl⟩
        · obtain ⟨i, rfl⟩ := Int.eq_ofNat_of_zero_le (by omega : 0 ≤ x)
          have hca := ha.rd.cell i (by omega)
          have hcb := hb.rd.cell i (by omega)
          have hsa := ha.rd.sh
          have hsb := hb.rd.sh
          have hi : (i : Int) < n := hx2
          go_wp2
          go_quiet (fail)
          go_wp2
          · have hne : ((Dg.dg LB a i : Int) != (Dg.dg LB b i : Int)) = true := by assumption
            go_quiet (fail)
            go_wp2
            · have hlt : Dg.dg LB a i < Dg.dg LB b i := by assumption
              go_ret
              have h1 : a < b := Dg.lt_of_dg (n := n) (i := i) (by rw [LB_eq]; omega) HLA.out HLB.out (by omega) (fun j h1 h2 => HE.out j (by omega) h2) hlt
              exact ⟨ret_int (by rw [cmpN_lt h1]), drawn3 _ _ _ _⟩
            · have hlt : ¬ Dg.dg LB a i < Dg.dg LB b i := by assumption
              have hne' := bne_cast hne
              go_ret
              have h1 : b < a := Dg.lt_of_dg (n := n) (i := i) (by rw [LB_eq]; omega) HLB.out HLA.out (by omega) (fun j h1 h2 => (HE.out j (by omega) h2).symm) (by omega)
              exact ⟨ret_int (by rw [cmpN_gt h1]), drawn3 _ _ _ _⟩
          · have hne : ((Dg.dg LB a i : Int) != (Dg.dg LB b i : Int)) = false := by assumption
            have heq := bne_cast_false hne
            go_roundw
            case rel =>
              refine ⟨_, _, by omega, by omega, rfl, rfl, fun j h1 h2 => ?_⟩
              by_cases e : j = i
              · rw [e]; exact heq
              · exact HE.out j (by omega) h2
            case measure => simp [intOf]
end Go.Proofs.YtjkjlbchbbpmaaaGreatDoor
/- math/bits: Add32, Sub32. -/
namespace Go.Proofs.YtjkjlbchbbpmaaaGreatDoor
open Go.RowKit

theorem add32_any (x y c : Nat) (w : World) (hx : x < 4294967296) (hy : y < 4294967296) (hc : c ≤ 1) :
    Calls Tryz.prog 112 #[.int .u32 (x : Int), .int .u32 (y : Int), .int .u32 (c : Int)] w fun e w' =>
      ∃ s k : Nat, e = .returned (.tuple #[.int .u32 (s : Int), .int .u32 (k : Int)]) ∧ Hid (s = (x + y + c) % LB) ∧ Hid (k = (x + y + c) / LB) ∧ w = w' := by
  go_enter Tryz.func112, Tryz.ntmps112
  go_wp2
  go_ret2
  refine ⟨(x + y + c) % LB, (x + y + c) / LB, ?_, rfl, rfl, rfl⟩
  simp [LB_eq]

/-- The borrow. -/
def bor (x y c : Nat) : Nat := if x < y + c then 1 else 0
theorem bor_le (x y c : Nat) : bor x y c ≤ 1 := by unfold bor; split <;> omega

theorem top_bit (n : Nat) (hn : n < 4294967296) : n / 2147483648 = (n.testBit 31).toNat := by
  rw [Nat.testBit_eq_decide_div_mod_eq]
  have e : n / 2 ^ 31 = n / 2147483648 := rfl
  rw [e]
  rcases (by omega : n / 2147483648 = 0 ∨ n / 2147483648 = 1) with h | h <;> simp [h]

theorem top_bit_iff (n : Nat) (hn : n < 4294967296) : n.testBit 31 = decide (2147483648 ≤ n) := by
  have h := top_bit n hn
  cases hb : n.testBit 31
  · rw [hb] at h
    have : n / 2147483648 = 0 := h
    simp; omega
  · rw [hb] at h
    have : n / 2147483648 = 1 := h
    simp; omega

/-- The borrow, bit by bit. -/
theorem borrow_bits (x y c : Nat) (hx : x < 4294967296) (hy : y < 4294967296) (hc : c ≤ 1) :
    (((4294967295 ^^^ x) &&& y) ||| ((4294967295 ^^^ (x ^^^ y)) &&& ((x + 4294967296 - y - c) % 4294967296))) / 2147483648 = bor x y c := by
  obtain ⟨d, hd⟩ : ∃ d, d = (x + 4294967296 - y - c) % 4294967296 := ⟨_, rfl⟩
  rw [← hd]
  have hdl : d < 4294967296 := by omega
  have hxor : x ^^^ y < 4294967296 := Nat.xor_lt_two_pow (n := 32) hx hy
  have h1 : 4294967295 ^^^ x < 4294967296 := Nat.xor_lt_two_pow (n := 32) (by omega) hx
  have h2 : 4294967295 ^^^ (x ^^^ y) < 4294967296 := Nat.xor_lt_two_pow (n := 32) (by omega) hxor
  have h3 : (4294967295 ^^^ x) &&& y < 4294967296 := Nat.and_lt_two_pow (n := 32) _ hy
  have h4 : (4294967295 ^^^ (x ^^^ y)) &&& d < 4294967296 := Nat.and_lt_two_pow (n := 32) _ hdl
  rw [top_bit _ (Nat.or_lt_two_pow (n := 32) h3 h4)]
  have ht : Nat.testBit 4294967295 31 = true := by decide
  rw [Nat.testBit_or, Nat.testBit_and, Nat.testBit_and, Nat.testBit_xor, Nat.testBit_xor, Nat.testBit_xor, ht, top_bit_iff x hx, top_bit_iff y hy, top_bit_iff d hdl]
  unfold bor
  by_cases a : 2147483648 ≤ x <;> by_cases b : 2147483648 ≤ y <;> by_cases e : 2147483648 ≤ d <;> by_cases g : x < y + c <;> simp [a, b, e, g] <;> omega

theorem sub32_bits (x y c : Nat) (hx : x < 4294967296) (hy : y < 4294967296) (hc : c ≤ 1) (D : Int) (e0 : D = (((x + 4294967296 - y - c) % 4294967296 : Nat) : Int)) :
    bits BinOp.or IntKind.u32 (bits BinOp.and IntKind.u32 (bits BinOp.xor IntKind.u32 IntKind.u32.max (x : Int)) (y : Int))
      (bits BinOp.and IntKind.u32 (bits BinOp.xor IntKind.u32 IntKind.u32.max (bits BinOp.xor IntKind.u32 (x : Int) (y : Int))) D) / 2147483648 = (bor x y c : Int) := by
  have em : IntKind.u32.max = ((4294967295 : Nat) : Int) := by decide
  have hxor : x ^^^ y < 4294967296 := Nat.xor_lt_two_pow (n := 32) hx hy
  have h1 : 4294967295 ^^^ x < 4294967296 := Nat.xor_lt_two_pow (n := 32) (by omega) hx
  have h2 : 4294967295 ^^^ (x ^^^ y) < 4294967296 := Nat.xor_lt_two_pow (n := 32) (by omega) hxor
  have hd : (x + 4294967296 - y - c) % 4294967296 < 4294967296 := Nat.mod_lt _ (by omega)
  have h3 : (4294967295 ^^^ x) &&& y < 4294967296 := Nat.and_lt_two_pow (n := 32) _ hy
  have h4 : (4294967295 ^^^ (x ^^^ y)) &&& ((x + 4294967296 - y - c) % 4294967296) < 4294967296 := Nat.and_lt_two_pow (n := 32) _ hd
  rw [e0, em, u32_xor_nat _ _ (by omega) hx, u32_and_nat _ _ h1 hy, u32_xor_nat _ _ hx hy, u32_xor_nat _ _ (by omega) hxor, u32_and_nat _ _ h2 hd, u32_or_nat _ _ h3 h4, ← borrow_bits x y c hx hy hc]
  rfl

theorem sub32_any (x y c : Nat) (w : World) (hx : x < 4294967296) (hy : y < 4294967296) (hc : c ≤ 1) :
    Calls Tryz.prog 111 #[.int .u32 (x : Int), .int .u32 (y : Int), .int .u32 (c : Int)] w fun e w' =>
      ∃ s k : Nat, e = .returned (.tuple #[.int .u32 (s : Int), .int .u32 (k : Int)]) ∧ Hid (s = (x + LB - y - c) % LB) ∧ Hid (k = bor x y c) ∧ w = w' := by
  have hsg : IntKind.u32.signed = false := rfl
  go_enter Tryz.func111, Tryz.ntmps111
  go_wp2
  go_ret2
  have e : (((x : Int) - (y : Int)) % 4294967296 - (c : Int)) % 4294967296 = (((x + LB - y - c) % LB : Nat) : Int) := by rw [LB_eq]; omega
  exact ⟨(x + LB - y - c) % LB, bor x y c, ret2_int e (sub32_bits x y c hx hy hc _ (by omega)), rfl, rfl, rfl⟩
end Go.Proofs.YtjkjlbchbbpmaaaGreatDoor
/- limbs.add: the walk. -/
namespace Go.Proofs.YtjkjlbchbbpmaaaGreatDoor
open Go.RowKit

theorem info32 : (Tryz.prog.info? 60).map (fun i => (i.zero, i.size, i.bytes)) = some (some (.int .u32 0), 1, 4) := by kernel_rfl
theorem size32 : (Tryz.prog.info? 60).map (·.size) = some 1 := by kernel_rfl

/-- trim, at numbers. -/
theorem tl_dg (v : Nat) : ∀ n, v < LB ^ n → tl (Dg.dg LB v) n = Dg.len LB v
  | 0, h => by
    have : v = 0 := by simpa using h
    subst this
    rw [Dg.len_zero]; rfl
  | n + 1, h => by
    unfold tl
    by_cases h0 : Dg.dg LB v n = 0
    · rw [if_pos h0]
      refine tl_dg v n ?_
      have e := Dg.mod_succ LB v n
      rw [Nat.mod_eq_of_lt h, h0] at e
      rw [e]
      simpa using Nat.mod_lt v (Nat.pow_pos (n := n) (show 0 < LB by rw [LB_eq]; omega))
    · rw [if_neg h0]
      exact (Dg.len_unique LB2 h (Or.inr (by simp; omega))).symm

theorem trim_num (ao : Option Addr) (n cap v : Nat) (w : World) (hr : Rd w .u32 ao n cap (Dg.dg LB v)) (hv : v < LB ^ n) :
    Calls Tryz.prog 77 #[.slice ao n cap] w fun e w' => ∃ k, e = .returned (.slice ao k cap) ∧ Num w ao k cap v ∧ w = w' :=
  (trim_any ao n cap _ w hr).mono fun _ _ ⟨he, hw⟩ => ⟨_, he, ⟨tl_dg v n hv, hr.take (tl_le _ _)⟩, hw⟩

/-- The call answers a new slice (or an old one) that reads as v; nothing that was there has changed. -/
def RetNum (w : World) (v : Nat) (e : Ending) (w' : World) : Prop :=
  ∃ ro k cap, e = .returned (.slice ro k cap) ∧ Num w' ro k cap v ∧ Below w.heap.size w w'

/-- One round of a sum. -/
theorem add_step {x y k cr s k' : Nat} (hs : Hid (s = (Dg.dg LB x k + Dg.dg LB y k + cr) % LB)) (hk' : Hid (k' = (Dg.dg LB x k + Dg.dg LB y k + cr) / LB)) (hcr : Hid (cr = Dg.cy LB x y k)) :
    s = Dg.dg LB (x + y) k ∧ k' = Dg.cy LB x y (k + 1) := by
  have h := Dg.cy_step LB x y k (by rw [LB_eq]; omega)
  exact ⟨by rw [hs.out, hcr.out, h.1], by rw [hk'.out, hcr.out, h.2]⟩
theorem own_step {wr : World} {kd : IntKind} {e g n k s : Nat} {f h : Nat → Nat} (hown : Own wr kd e g n (fun j => if j < k then f j else h j)) (hs : s = f k) :
    Own (wr.setCell ⟨g, k, none⟩ (.int kd (s : Nat))) kd e g n (fun j => if j < k + 1 then f j else h j) :=
  (hown.set k s).congr fun j _ => by
    by_cases h1 : j = k
    · subst h1; simp [hs]
    · by_cases h2 : j < k
      · have : j < k + 1 := by omega
        simp [h1, h2, this]
      · have : ¬ j < k + 1 := by omega
        simp [h1, h2, this]

/-- The same where the stored number is told as an integer. -/
theorem own_step_int {wr : World} {kd : IntKind} {e g n k s : Nat} {v : Int} {f h : Nat → Nat} (hown : Own wr kd e g n (fun j => if j < k then f j else h j)) (hv : v = (s : Nat)) (hs : s = f k) :
    Own (wr.setCell ⟨g, k, none⟩ (.int kd v)) kd e g n (fun j => if j < k + 1 then f j else h j) := by
  rw [hv]; exact own_step hown hs

/-- A cell set anew, the row told by another function. -/
theorem own_set_int {wr : World} {kd : IntKind} {e g n k s : Nat} {v : Int} {f h : Nat → Nat} (hown : Own wr kd e g n f) (hv : v = (s : Nat)) (hs : s = h k) (he : ∀ j, j < n → j ≠ k → f j = h j) :
    Own (wr.setCell ⟨g, k, none⟩ (.int kd v)) kd e g n h := by
  rw [hv]
  refine (hown.set k s).congr fun j hj => ?_
  by_cases h1 : j = k
  · subst h1; simp [hs]
  · simp [h1, he j hj h1]

set_option maxRecDepth 100000 in
theorem add_any (ao bo : Option Addr) (n c m d a b : Nat) (w : World) (ha : Num w ao n c a) (hb : Num w bo m d b) (hn : n ≤ 100000000) (hm : m ≤ 100000000) :
    Calls Tryz.prog 79 #[.slice ao n c, .slice bo m d] w (RetNum w (a + b)) := by
  go_enter Tryz.func79, Tryz.ntmps79
  go_upto_if 13 with (fail)
  go_cut [0, 1] (fun s0 s1 wx => ∃ xo n c x yo m d y, s0 = .slice xo n c ∧ s1 = .slice yo m d ∧ m ≤ n ∧ n ≤ 100000000 ∧ Num w xo n c x ∧ Num w yo m d y ∧ x + y = a + b ∧ w = wx)
  case first =>
    by_cases hnm : n < m
    · go_wp2
      go_meet
      exact ⟨bo, m, d, b, ao, n, c, a, rfl, rfl, by omega, by omega, hb, ha, by omega, rfl⟩
    · go_wp2
      go_meet
      exact ⟨ao, n, c, a, bo, m, d, b, rfl, rfl, by omega, by omega, ha, hb, by omega, rfl⟩
  case rest =>
    obtain ⟨xo, n, c, x, yo, m, d, y, rfl, rfl, hmn, hn, hx, hy, hxy, rfl⟩ := hcut
    have HXY := Lib.hid hxy; clear hxy ha hb
    go_wp2_with (first
      | (refine wpList_make_row _ rfl (.tmp 18) (.tmp 18) _ rfl 60 .u32 4 Tryz.underlying72 info32 .i64 .i64 _ _ (n + 1) rfl rfl (by omega) (by omega) (by omega) (by omega) ?_; intro g w1 hg hown1 hb1)
      | (refine wpList_copy_row _ rfl (.tmp 20) (.tmp 21) _ _ rfl 60 Tryz.underlying72 size32 .u32 _ (n + 1) (n + 1) _ _ n _ _ rfl rfl hown1 (hx.rd.below hb1 (Nat.le_refl _)) (by omega) _ _ hb1 hg ?_; intro w2 hown2 hb2))
    have hx0 : x < LB ^ n := hx.lt
    have hy0 : y < LB ^ m := hy.lt
    have hdx : ∀ j, Dg.dg LB x j < LB := Dg.dg_lt (by rw [LB_eq]; omega) x
    have hdy : ∀ j, Dg.dg LB y j < LB := Dg.dg_lt (by rw [LB_eq]; omega) y
    have hown3 : Own w2 .u32 60 g (n + 1) (fun j => if j < 0 then Dg.dg LB (x + y) j else Dg.dg LB x j) := hown2.congr fun j hj => by
      by_cases h : j < n
      · simp [h]
      · simp [h]; exact (Dg.dg_of_lt_le (by rw [LB_eq]; omega) hx0 (by omega)).symm
    have HX0 := Lib.hid hx0; have HY0 := Lib.hid hy0; have HDX := Lib.hid hdx; have HDY := Lib.hid hdy
    clear hx0 hy0 hdx hdy hown2
    go_loopw [6, 25] (fun cv i wr => ∃ k cr : Nat, k ≤ n + 1 ∧ i = .int .i64 k ∧ cv = .int .u32 cr ∧ Hid (cr = Dg.cy LB x y k) ∧ Own wr .u32 60 g (n + 1) (fun j => if j < k then Dg.dg LB (x + y) j else Dg.dg LB x j) ∧ Below w.heap.size w wr) (fun _ i _ => n + 1 - (intOf i).toNat)
    case atStart => exact ⟨0, 0, Nat.zero_le _, rfl, rfl, (Dg.cy_zero _ _ _).symm, hown3, hb2⟩
    case round =>
      obtain ⟨k, cr, hk, rfl, rfl, hcr, hown, hbel⟩ := hrel
      clear hown3
      have hcr1 : cr ≤ 1 := by rw [hcr.out]; exact Dg.cy_le (by rw [LB_eq]; omega) _ _ _
      by_cases hkn : k < n + 1
      · have hcell : wr.cell? ⟨g, k, none⟩ = some (.int .u32 (Dg.dg LB x k : Nat)) := by simpa using hown.cell k hkn
        have hfr := hown.frozen k
        have hsy := hy.rd.sh
        obtain ⟨xk, hxk⟩ : ∃ xk, xk = Dg.dg LB x k := ⟨_, rfl⟩
        rw [← hxk] at hcell
        have hxl : xk < 4294967296 := by rw [hxk]; exact HDX.out k
        have HXK := Lib.hid hxk; clear hxk
        by_cases hkm : k < m
        · have hcy : wr.cell? ⟨blk yo, off yo + k, none⟩ = some (.int .u32 (Dg.dg LB y k : Nat)) := (hy.rd.below hbel (Nat.le_refl _)).cell k hkm
          obtain ⟨yk, hyk⟩ : ∃ yk, yk = Dg.dg LB y k := ⟨_, rfl⟩
          rw [← hyk] at hcy
          have hyl : yk < 4294967296 := by rw [hyk]; exact HDY.out k
          have HYK := Lib.hid hyk; clear hyk
          go_wp2_with (go_at_call 112; refine (add32_any xk yk cr _ hxl hyl hcr1).mono ?_; rintro e w' ⟨s, k', rfl, hs, hk', rfl⟩)
          have h1 := hs.out; rw [HXK.out, HYK.out] at h1
          have h2 := hk'.out; rw [HXK.out, HYK.out] at h2
          have R := add_step h1 h2 hcr
          go_roundw
          case rel => exact ⟨k + 1, k', by omega, by go_num, rfl, R.2, own_step hown R.1, hbel.setCell hg _⟩
          case measure => simp [intOf]; omega
        · have hyk : 0 = Dg.dg LB y k := (Dg.dg_of_lt_le (by rw [LB_eq]; omega) HY0.out (by omega)).symm
          have HYK := Lib.hid hyk; clear hyk
          go_wp2_with (go_at_call 112; refine (add32_any xk 0 cr _ hxl (by omega) hcr1).mono ?_; rintro e w' ⟨s, k', rfl, hs, hk', rfl⟩)
          have h1 := hs.out; rw [HXK.out, HYK.out] at h1
          have h2 := hk'.out; rw [HXK.out, HYK.out] at h2
          have R := add_step h1 h2 hcr
          go_roundw
          case rel => exact ⟨k + 1, k', by omega, by go_num, rfl, R.2, own_step hown R.1, hbel.setCell hg _⟩
          case measure => simp [intOf]; omega
      · obtain rfl : k = n + 1 := by omega
        have hlt : x + y < LB ^ (n + 1) := by
          have h1 := HX0.out
          have h2 : y < LB ^ n := Nat.lt_of_lt_of_le HY0.out (Nat.pow_le_pow_right (by rw [LB_eq]; omega) hmn)
          have h3 : LB ^ n * 2 ≤ LB ^ (n + 1) := by rw [Nat.pow_succ]; exact Nat.mul_le_mul_left _ LB2
          omega
        have hrd : Rd wr .u32 (some ⟨g, 0, none⟩) (n + 1) (n + 1) (Dg.dg LB (x + y)) := (hown.congr fun j hj => by simp [hj]).rd
        have HLT := Lib.hid hlt; clear hlt
        go_wp2_with (go_at_call 77; refine (trim_num _ _ _ _ _ hrd HLT.out).mono ?_; rintro e w' ⟨k, rfl, hnum, rfl⟩)
        go_ret
        exact ⟨_, _, _, rfl, by rw [← HXY.out]; exact hnum, hbel⟩
end Go.Proofs.YtjkjlbchbbpmaaaGreatDoor
/- limbs.sub: the walk. -/
namespace Go.Proofs.YtjkjlbchbbpmaaaGreatDoor
open Go.RowKit

/-- The errors of the package. -/
def errLong : Value := .iface 104 (.string ⟨#[116, 111, 111, 32, 108, 111, 110, 103]⟩)
def errZero : Value := .iface 104 (.string ⟨#[122, 101, 114, 111]⟩)
def errBelow : Value := .iface 104 (.string ⟨#[98, 101, 108, 111, 119, 32, 122, 101, 114, 111]⟩)
def errNone : Value := .iface 104 (.string ⟨#[110, 111, 32, 105, 110, 118, 101, 114, 115, 101]⟩)
def errEven : Value := .iface 104 (.string ⟨#[101, 118, 101, 110]⟩)

/-- A number and no error. -/
def RetNumE (w : World) (v : Nat) (e : Ending) (w' : World) : Prop :=
  ∃ ro k cap, e = .returned (.tuple #[.slice ro k cap, .nilIface]) ∧ Num w' ro k cap v ∧ Below w.heap.size w w'
/-- No number, and an error. -/
def RetErrE (w : World) (er : Value) (e : Ending) (w' : World) : Prop :=
  e = .returned (.tuple #[.slice none 0 0, er]) ∧ Below w.heap.size w w'

theorem below_drawn {B : Nat} {a w : World} (h : Below B a w) (q : Nat) : Below B a (w.drewN q) := ⟨h.os, h.tape, h.output, h.size, h.block⟩

set_option maxRecDepth 100000 in
theorem sub_lt (ao bo : Option Addr) (n c m d a b : Nat) (w : World) (ha : Num w ao n c a) (hb : Num w bo m d b) (hab : a < b) :
    Calls Tryz.prog 80 #[.slice ao n c, .slice bo m d] w (RetErrE w errBelow) := by
  have hcm : cmpN a b = -1 := cmpN_lt hab
  have HCM := Lib.hid hcm; clear hcm
  go_enter Tryz.func80, Tryz.ntmps80
  go_wp2_with (go_at_call 72; refine (cmp_any _ _ _ _ _ _ a b _ ha hb).mono ?_; rintro e w' ⟨rfl, q, rfl⟩; rw [HCM.out])
  go_ret2
  exact ⟨rfl, below_drawn (Below.refl _ _) q⟩

/-- One round of a difference. -/
theorem sub_step' {x y k cr s k' : Nat} (hyx : y ≤ x) (hs : Hid (s = (Dg.dg LB x k + LB - Dg.dg LB y k - cr) % LB)) (hk' : Hid (k' = bor (Dg.dg LB x k) (Dg.dg LB y k) cr)) (hcr : Hid (cr = Dg.bw LB x y k)) :
    s = Dg.dg LB (x - y) k ∧ k' = Dg.bw LB x y (k + 1) :=
  ⟨by rw [hs.out, hcr.out, Dg.dg_sub LB x y k (by rw [LB_eq]; omega) hyx], by rw [hk'.out, hcr.out, Dg.sub_step LB x y k (by rw [LB_eq]; omega)]; rfl⟩

set_option maxRecDepth 100000 in
theorem sub_any (xo yo : Option Addr) (n c m d x y : Nat) (w : World) (hx : Num w xo n c x) (hy : Num w yo m d y) (hn : n ≤ 100000000) (hyx : y ≤ x) :
    Calls Tryz.prog 80 #[.slice xo n c, .slice yo m d] w (RetNumE w (x - y)) := by
  have hcm : 0 ≤ cmpN x y := by unfold cmpN; rw [if_neg (by omega)]; split <;> omega
  obtain ⟨cm, hcmd⟩ : ∃ cm, cm = cmpN x y := ⟨_, rfl⟩
  rw [← hcmd] at hcm
  have HCM := Lib.hid hcmd; clear hcmd
  have HYX := Lib.hid hyx; clear hyx
  have hmn : m ≤ n := by rw [hx.len, hy.len]; exact Dg.len_mono LB2 HYX.out
  go_enter Tryz.func80, Tryz.ntmps80
  go_wp2_with (first
    | (go_at_call 72; refine (cmp_any _ _ _ _ _ _ x y _ hx hy).mono ?_; rintro e w' ⟨rfl, q, rfl⟩; rw [← HCM.out]; have hx' := hx.drewN q; have hbq := below_drawn (Below.refl w.heap.size w) q)
    | (refine wpList_make_row _ rfl (.tmp 16) (.tmp 16) _ rfl 60 .u32 4 Tryz.underlying72 info32 .i64 .i64 _ _ n rfl rfl (by omega) (by omega) (by omega) (by omega) ?_; intro g w1 hg hown1 hb1; have hg' : w.heap.size ≤ g := hg; have hb1' : Below w.heap.size w w1 := hbq.trans hb1)
    | (refine wpList_copy_row _ rfl (.tmp 18) (.tmp 19) _ _ rfl 60 Tryz.underlying72 size32 .u32 _ n n _ _ n _ _ rfl rfl hown1 (hx.rd.below hb1' (Nat.le_refl _)) (by omega) _ _ hb1' hg' ?_; intro w2 hown2 hb2))
  have hx0 : x < LB ^ n := hx.lt
  have hy0 : y < LB ^ m := hy.lt
  have hdx : ∀ j, Dg.dg LB x j < LB := Dg.dg_lt (by rw [LB_eq]; omega) x
  have hdy : ∀ j, Dg.dg LB y j < LB := Dg.dg_lt (by rw [LB_eq]; omega) y
  have hown3 : Own w2 .u32 60 g n (fun j => if j < 0 then Dg.dg LB (x - y) j else Dg.dg LB x j) := hown2.congr fun j hj => by simp [hj]
  have HX0 := Lib.hid hx0; have HY0 := Lib.hid hy0; have HDX := Lib.hid hdx; have HDY := Lib.hid hdy
  clear hx0 hy0 hdx hdy hown2
  go_loopw [7, 23] (fun cv i wr => ∃ k cr : Nat, k ≤ n ∧ i = .int .i64 k ∧ cv = .int .u32 cr ∧ Hid (cr = Dg.bw LB x y k) ∧ Own wr .u32 60 g n (fun j => if j < k then Dg.dg LB (x - y) j else Dg.dg LB x j) ∧ Below w.heap.size w wr) (fun _ i _ => n - (intOf i).toNat)
  case atStart => exact ⟨0, 0, Nat.zero_le _, rfl, rfl, (Dg.bw_zero _ _ _).symm, hown3, hb2⟩
  case round =>
    obtain ⟨k, cr, hk, rfl, rfl, hcr, hown, hbel⟩ := hrel
    clear hown3
    have hcr1 : cr ≤ 1 := by rw [hcr.out]; exact Dg.bw_le _ _ _ _
    by_cases hkn : k < n
    · have hcell : wr.cell? ⟨g, k, none⟩ = some (.int .u32 (Dg.dg LB x k : Nat)) := by simpa using hown.cell k hkn
      have hfr := hown.frozen k
      have hsy := hy.rd.sh
      obtain ⟨xk, hxk⟩ : ∃ xk, xk = Dg.dg LB x k := ⟨_, rfl⟩
      rw [← hxk] at hcell
      have hxl : xk < 4294967296 := by rw [hxk]; exact HDX.out k
      have HXK := Lib.hid hxk; clear hxk
      by_cases hkm : k < m
      · have hcy : wr.cell? ⟨blk yo, off yo + k, none⟩ = some (.int .u32 (Dg.dg LB y k : Nat)) := (hy.rd.below hbel (Nat.le_refl _)).cell k hkm
        obtain ⟨yk, hyk⟩ : ∃ yk, yk = Dg.dg LB y k := ⟨_, rfl⟩
        rw [← hyk] at hcy
        have hyl : yk < 4294967296 := by rw [hyk]; exact HDY.out k
        have HYK := Lib.hid hyk; clear hyk
        go_wp2_with (go_at_call 111; refine (sub32_any xk yk cr _ hxl hyl hcr1).mono ?_; rintro e w' ⟨s, k', rfl, hs, hk', rfl⟩)
        have h1 := hs.out; rw [HXK.out, HYK.out] at h1
        have h2 := hk'.out; rw [HXK.out, HYK.out] at h2
        have R := sub_step' HYX.out h1 h2 hcr
        go_roundw
        case rel => exact ⟨k + 1, k', by omega, by go_num, rfl, R.2, own_step hown R.1, hbel.setCell hg' _⟩
        case measure => simp [intOf]; omega
      · have hyk : 0 = Dg.dg LB y k := (Dg.dg_of_lt_le (by rw [LB_eq]; omega) HY0.out (by omega)).symm
        have HYK := Lib.hid hyk; clear hyk
        go_wp2_with (go_at_call 111; refine (sub32_any xk 0 cr _ hxl (by omega) hcr1).mono ?_; rintro e w' ⟨s, k', rfl, hs, hk', rfl⟩)
        have h1 := hs.out; rw [HXK.out, HYK.out] at h1
        have h2 := hk'.out; rw [HXK.out, HYK.out] at h2
        have R := sub_step' HYX.out h1 h2 hcr
        go_roundw
        case rel => exact ⟨k + 1, k', by omega, by go_num, rfl, R.2, own_step hown R.1, hbel.setCell hg' _⟩
        case measure => simp [intOf]; omega
    · obtain rfl : k = n := by omega
      have hlt : x - y < LB ^ k := Nat.lt_of_le_of_lt (Nat.sub_le _ _) HX0.out
      have hrd : Rd wr .u32 (some ⟨g, 0, none⟩) k k (Dg.dg LB (x - y)) := (hown.congr fun j hj => by simp [hj]).rd
      have HLT := Lib.hid hlt; clear hlt
      go_wp2_with (go_at_call 77; refine (trim_num _ _ _ _ _ hrd HLT.out).mono ?_; rintro e w' ⟨k, rfl, hnum, rfl⟩)
      go_ret2
      exact ⟨_, _, _, rfl, hnum, hbel⟩
end Go.Proofs.YtjkjlbchbbpmaaaGreatDoor
/- limbs.mul: the walk. -/
namespace Go.Proofs.YtjkjlbchbbpmaaaGreatDoor
open Go.RowKit

/-- One inner round of a product: X is what stands in the row, S what has been added to it. -/
theorem mul_step {X S S' i cr x y nw : Nat} (hS' : S' = S + x * y * LB ^ i) (hcr : S / LB ^ i = X / LB ^ i + cr) (hnw : nw = cr + (x * y + Dg.dg LB X i)) :
    nw % LB = Dg.dg LB S' i ∧ S' / LB ^ (i + 1) = X / LB ^ (i + 1) + nw / LB ∧ ∀ j, j < i → Dg.dg LB S' j = Dg.dg LB S j := by
  have hB : 0 < LB := by rw [LB_eq]; omega
  have hp : 0 < LB ^ i := Nat.pow_pos hB
  have e1 : S' / LB ^ i = X / LB ^ i + cr + x * y := by
    rw [hS', Nat.mul_comm (x * y), Nat.add_mul_div_left _ _ hp, hcr]
  have e2 : X / LB ^ i = LB * (X / LB ^ (i + 1)) + Dg.dg LB X i := by
    unfold Dg.dg
    rw [Nat.pow_succ, ← Nat.div_div_eq_div_mul]
    exact (Nat.div_add_mod _ _).symm
  have e3 : S' / LB ^ i = nw + LB * (X / LB ^ (i + 1)) := by rw [e1, hnw]; omega
  refine ⟨?_, ?_, fun j hj => ?_⟩
  · show _ = S' / LB ^ i % LB
    rw [e3, Nat.add_mul_mod_self_left]
  · have e5 : S' / LB ^ (i + 1) = S' / LB ^ i / LB := by rw [Nat.pow_succ, Nat.div_div_eq_div_mul]
    rw [e5, e3, Nat.add_mul_div_left _ _ hB]; omega
  · rw [hS']
    unfold Dg.dg
    obtain ⟨d, rfl⟩ : ∃ d, i = j + 1 + d := ⟨i - (j + 1), by omega⟩
    have e4 : x * y * LB ^ (j + 1 + d) = LB ^ j * (LB * (x * y * LB ^ d)) := by
      rw [Nat.pow_add, Nat.pow_succ]
      simp only [Nat.mul_comm, Nat.mul_left_comm, Nat.mul_assoc]
    rw [e4, Nat.add_mul_div_left _ _ (Nat.pow_pos hB), Nat.add_mul_mod_self_left]

set_option maxRecDepth 100000 in
set_option maxHeartbeats 800000 in
theorem mul_any (ao bo : Option Addr) (n c m d a b : Nat) (w : World) (ha : Num w ao n c a) (hb : Num w bo m d b) (hn : n ≤ 100000000) (hm : m ≤ 100000000) :
    Calls Tryz.prog 81 #[.slice ao n c, .slice bo m d] w (RetNum w (a * b)) := by
  have hB : 0 < LB := by rw [LB_eq]; omega
  have HB := Lib.hid hB; clear hB
  have ha0 : a < LB ^ n := ha.lt
  have hb0 : b < LB ^ m := hb.lt
  have HA0 := Lib.hid ha0; have HB0 := Lib.hid hb0
  clear ha0 hb0
  go_enter Tryz.func81, Tryz.ntmps81
  go_wp2_with (refine wpList_make_row _ rfl (.tmp 15) (.tmp 15) _ rfl 60 .u32 4 Tryz.underlying72 info32 .i64 .i64 _ _ (n + m) rfl rfl (by omega) (by omega) (by omega) (by omega) ?_; intro g w1 hg hown1 hb1)
  have hown2 : Own w1 .u32 60 g (n + m) (Dg.dg LB (a % LB ^ 0 * b)) := hown1.congr fun j _ => by simp [Nat.mod_one, Dg.dg_zero]
  clear hown1
  go_loopw [19] (fun i wr => ∃ k : Nat, k ≤ n ∧ i = .int .i64 k ∧ Own wr .u32 60 g (n + m) (Dg.dg LB (a % LB ^ k * b)) ∧ Below w.heap.size w wr) (fun i _ => n - (intOf i).toNat)
  case atStart => exact ⟨0, Nat.zero_le _, rfl, hown2, hb1⟩
  case round =>
    obtain ⟨i, hi, rfl, hown, hbel⟩ := hrel
    clear hown2
    by_cases hin : i < n
    · have hca : wr.cell? ⟨blk ao, off ao + i, none⟩ = some (.int .u32 (Dg.dg LB a i : Nat)) := (ha.rd.below hbel (Nat.le_refl _)).cell i hin
      have hsa := ha.rd.sh
      obtain ⟨x, hx⟩ : ∃ x, x = Dg.dg LB a i := ⟨_, rfl⟩
      rw [← hx] at hca
      have hxl : x < 4294967296 := by rw [hx]; exact Dg.dg_lt HB.out a i
      have HX := Lib.hid hx; clear hx
      obtain ⟨X, hX⟩ : ∃ X, X = a % LB ^ i * b := ⟨_, rfl⟩
      rw [← hX] at hown
      have HXX := Lib.hid hX; clear hX
      go_wp2_with fail
      obtain ⟨wo, rfl⟩ : ∃ wo : World, wo = wr := ⟨_, rfl⟩
      go_loopw [8, 26] (fun cv i2 wr => ∃ k cr : Nat, k ≤ m ∧ i2 = .int .i64 k ∧ cv = .int .u64 cr ∧ cr < LB ∧ Hid ((X + x * (b % LB ^ k) * LB ^ i) / LB ^ (i + k) = X / LB ^ (i + k) + cr) ∧ Own wr .u32 60 g (n + m) (fun j => if j < i + k then Dg.dg LB (X + x * (b % LB ^ k) * LB ^ i) j else Dg.dg LB X j) ∧ Below w.heap.size w wr) (fun _ i2 _ => m - (intOf i2).toNat)
      case atStart => exact ⟨0, 0, Nat.zero_le _, rfl, rfl, HB.out, by simp [Nat.mod_one, Hid], hown.congr fun j _ => by simp [Nat.mod_one], hbel⟩
      case round =>
        obtain ⟨k, cr, hk, rfl, rfl, hcr, hcq, hown, hbel⟩ := hrel
        have hcr' : cr < 4294967296 := hcr
        clear hcr
        by_cases hkm : k < m
        · have hcb : wr.cell? ⟨blk bo, off bo + k, none⟩ = some (.int .u32 (Dg.dg LB b k : Nat)) := (hb.rd.below hbel (Nat.le_refl _)).cell k hkm
          have hsb := hb.rd.sh
          obtain ⟨y, hy⟩ : ∃ y, y = Dg.dg LB b k := ⟨_, rfl⟩
          rw [← hy] at hcb
          have hyl : y < 4294967296 := by rw [hy]; exact Dg.dg_lt HB.out b k
          have HY := Lib.hid hy; clear hy
          have hco : wr.cell? ⟨g, i + k, none⟩ = some (.int .u32 (Dg.dg LB X (i + k) : Nat)) := by simpa using hown.cell (i + k) (by omega)
          obtain ⟨z, hz⟩ : ∃ z, z = Dg.dg LB X (i + k) := ⟨_, rfl⟩
          rw [← hz] at hco
          have hzl : z < 4294967296 := by rw [hz]; exact Dg.dg_lt HB.out X _
          have HZ := Lib.hid hz; clear hz
          have hfr := hown.frozen (i + k)
          have hxy : (x : Int) * (y : Int) ≤ 18446744065119617025 := by
            have h1 : x * y ≤ 4294967295 * 4294967295 := Nat.mul_le_mul (by omega) (by omega)
            have h2 : ((x * y : Nat) : Int) = (x : Int) * (y : Int) := Int.natCast_mul _ _
            omega
          have hxy0 : 0 ≤ (x : Int) * (y : Int) := by
            have h2 : ((x * y : Nat) : Int) = (x : Int) * (y : Int) := Int.natCast_mul _ _
            omega
          go_wp2_with fail
          obtain ⟨nw, hnw⟩ : ∃ nw, nw = cr + (x * y + z) := ⟨_, rfl⟩
          have hnwi : ((cr : Int) + ((x : Int) * (y : Int) + (z : Int))) = (nw : Nat) := by rw [hnw]; simp
          have hS' : X + x * (b % LB ^ (k + 1)) * LB ^ i = X + x * (b % LB ^ k) * LB ^ i + x * y * LB ^ (i + k) := by
            rw [Dg.mod_succ, ← HY.out, Nat.mul_add, Nat.add_mul, Nat.pow_add]
            have : x * (LB ^ k * y) * LB ^ i = x * y * (LB ^ i * LB ^ k) := by simp only [Nat.mul_comm, Nat.mul_left_comm, Nat.mul_assoc]
            omega
          have R := mul_step (i := i + k) hS' hcq.out (hnw.trans (by rw [HZ.out]))
          have hnl : nw / LB < LB := by
            have h1 : x * y ≤ 4294967295 * 4294967295 := Nat.mul_le_mul (by omega) (by omega)
            rw [LB_eq]; omega
          go_roundw
          case rel => exact ⟨k + 1, nw / LB, by omega, by go_num, by rw [hnwi]; rfl, hnl, R.2.1, own_set_int hown (s := nw % LB) (by rw [hnwi]; rfl) (by rw [if_pos (by omega)]; exact R.1) (fun j hj hne => by
            by_cases h1 : j < i + k
            · rw [if_pos h1, if_pos (by omega)]; exact (R.2.2 j h1).symm
            · rw [if_neg h1, if_neg (by omega)]), hbel.setCell hg _⟩
          case measure => simp [intOf]; omega
        · obtain rfl : k = m := by omega
          have hS : X + x * (b % LB ^ k) * LB ^ i = a % LB ^ (i + 1) * b := by
            rw [Nat.mod_eq_of_lt HB0.out, Dg.mod_succ, ← HX.out, Nat.add_mul, ← HXX.out]
            have : x * b * LB ^ i = LB ^ i * x * b := by simp only [Nat.mul_comm, Nat.mul_assoc]
            omega
          have hXlt : X < LB ^ (i + k) := by
            rw [HXX.out, Nat.pow_add]
            exact Nat.mul_lt_mul'' (Nat.mod_lt _ (Nat.pow_pos HB.out)) HB0.out
          have hSlt : a % LB ^ (i + 1) * b < LB ^ (i + 1 + k) := by
            rw [Nat.pow_add LB (i + 1) k]
            exact Nat.mul_lt_mul'' (Nat.mod_lt _ (Nat.pow_pos HB.out)) HB0.out
          have hcrd : cr = Dg.dg LB (a % LB ^ (i + 1) * b) (i + k) := by
            have h1 := hcq.out
            rw [hS, Nat.div_eq_of_lt hXlt, Nat.zero_add] at h1
            unfold Dg.dg
            rw [h1, Nat.mod_eq_of_lt (by rw [LB_eq]; exact hcr')]
          have hco : wr.cell? ⟨g, i + k, none⟩ = some (.int .u32 (Dg.dg LB X (i + k) : Nat)) := by simpa using hown.cell (i + k) (by omega)
          have hfr := hown.frozen (i + k)
          have HS := Lib.hid hS; have HXL := Lib.hid hXlt; have HSL := Lib.hid hSlt; have HCR := Lib.hid hcrd
          clear hS hXlt hSlt hcrd
          go_wp2_with fail
          go_roundw
          case rel => exact ⟨i + 1, by omega, by go_num, own_set_int hown (s := cr) rfl HCR.out (fun j hj hne => by
            rw [HS.out]
            by_cases h1 : j < i + k
            · rw [if_pos h1]
            · rw [if_neg h1, Dg.dg_of_lt_le HB.out HXL.out (by omega), Dg.dg_of_lt_le HB.out HSL.out (by omega)]), hbel.setCell hg _⟩
          case measure => simp [intOf]; omega
    · obtain rfl : i = n := by omega
      have hlt : a * b < LB ^ (i + m) := by rw [Nat.pow_add]; exact Nat.mul_lt_mul'' HA0.out HB0.out
      have hrd : Rd wr .u32 (some ⟨g, 0, none⟩) (i + m) (i + m) (Dg.dg LB (a * b)) := by
        have h := hown.rd; rw [Nat.mod_eq_of_lt HA0.out] at h; exact h
      have HLT := Lib.hid hlt; clear hlt
      go_wp2_with (go_at_call 77; refine (trim_num _ _ _ _ _ hrd HLT.out).mono ?_; rintro e w' ⟨k, rfl, hnum, rfl⟩)
      go_ret
      exact ⟨_, _, _, rfl, hnum, hbel⟩
end Go.Proofs.YtjkjlbchbbpmaaaGreatDoor
/- limbs.take and limbs.give: the walks. -/
namespace Go.Proofs.YtjkjlbchbbpmaaaGreatDoor
open Go.RowKit

theorem LBpos : 0 < LB := by rw [LB_eq]; omega

/-- Block g alone has been written. -/
theorem grown_set {w0 w : World} {g j : Nat} {v : Value} (h : w0.grownBy w (some g)) : w0.grownBy (w.setCell ⟨g, j, none⟩ v) (some g) :=
  ⟨h.os, h.tape, h.output, by simpa [World.setCell] using h.size, fun k hk hne => by
    rw [Below.heap_setCell _ _ _ _ (fun e => hne (by rw [e]))]
    exact h.block k hk hne⟩
theorem Rd.grown {w w' : World} {g : Nat} {k : IntKind} {ao : Option Addr} {n cap : Nat} {f : Nat → Nat} (h : Rd w k ao n cap f) (hg : w.grownBy w' (some g)) (hne : blk ao ≠ g) : Rd w' k ao n cap f :=
  ⟨h.sh, h.le, h.cm, fun j hj => hg.cell (h.cell j hj) (fun e => hne (Option.some.inj e))⟩
theorem Own.grown {w w' : World} {g0 : Nat} {k : IntKind} {e g n : Nat} {f : Nat → Nat} (h : Own w k e g n f) (hg : w.grownBy w' (some g0)) (hne : g ≠ g0) : Own w' k e g n f :=
  h.block (hg.block g h.lt (fun e => hne (Option.some.inj e)))
theorem Own.other {w : World} {k : IntKind} {e g n : Nat} {f : Nat → Nat} (h : Own w k e g n f) {g0 j : Nat} (v : Value) (hne : g ≠ g0) : Own (w.setCell ⟨g0, j, none⟩ v) k e g n f :=
  h.block (Below.heap_setCell _ _ _ _ hne)
theorem Rd.other {w : World} {k : IntKind} {ao : Option Addr} {n cap : Nat} {f : Nat → Nat} (h : Rd w k ao n cap f) {g0 j : Nat} (v : Value) (hne : blk ao ≠ g0) : Rd (w.setCell ⟨g0, j, none⟩ v) k ao n cap f :=
  ⟨h.sh, h.le, h.cm, fun i hi => (World.cell?_of_block (w := w) (Below.heap_setCell _ _ _ _ hne)).trans (h.cell i hi)⟩
theorem grown_below {B g : Nat} {w0 w w' : World} (hb : Below B w0 w) (hg : w.grownBy w' (some g)) (hB : B ≤ w.heap.size) (hBg : B ≤ g) : Below B w0 w' :=
  hb.grown hg hB (fun k h => by rw [← Option.some.inj h]; exact hBg)

/-- One round of q times V. -/
theorem scale_step {q V i cr t : Nat} (hcr : cr = q * (V % LB ^ i) / LB ^ i) (ht : t = cr + Dg.dg LB V i * q) :
    t % LB = Dg.dg LB (q * V) i ∧ t / LB = q * (V % LB ^ (i + 1)) / LB ^ (i + 1) := by
  have hp : 0 < LB ^ i := Nat.pow_pos LBpos
  have e1 : t = q * (V % LB ^ (i + 1)) / LB ^ i := by
    rw [Dg.mod_succ, Nat.mul_add, Nat.mul_left_comm q, Nat.add_mul_div_left _ _ hp, ← hcr, ht, Nat.mul_comm q]
  constructor
  · rw [e1]
    have h1 : q * V = q * (V % LB ^ (i + 1)) + LB ^ i * (LB * (q * (V / LB ^ (i + 1)))) := by
      have h2 := Nat.mod_add_div V (LB ^ (i + 1))
      have h3 : LB ^ i * (LB * (q * (V / LB ^ (i + 1)))) = q * (LB ^ (i + 1) * (V / LB ^ (i + 1))) := by
        rw [Nat.pow_succ]; simp only [Nat.mul_comm, Nat.mul_left_comm, Nat.mul_assoc]
      rw [h3, ← Nat.mul_add, h2]
    show _ = (q * V) / LB ^ i % LB
    rw [h1, Nat.add_mul_div_left _ _ hp, Nat.add_mul_mod_self_left]
  · rw [e1, Nat.div_div_eq_div_mul, ← Nat.pow_succ]

theorem scale_le {q V i : Nat} : q * (V % LB ^ i) / LB ^ i ≤ q := by
  have hp : 0 < LB ^ i := Nat.pow_pos LBpos
  refine Nat.div_le_of_le_mul ?_
  rw [Nat.mul_comm]
  exact Nat.mul_le_mul_right _ (Nat.le_of_lt (Nat.mod_lt _ hp))

theorem dg_add_pow {W L i : Nat} (hi : i < L) : Dg.dg LB (W + LB ^ L) i = Dg.dg LB W i := by
  rw [← Dg.dg_mod (B := LB) (v := W + LB ^ L) hi, ← Dg.dg_mod (B := LB) (v := W) hi, Nat.add_mod_right]
theorem bw_add_pow {W G L i : Nat} (hi : i ≤ L) : Dg.bw LB (W + LB ^ L) G i = Dg.bw LB W G i := by
  unfold Dg.bw
  obtain ⟨d, rfl⟩ : ∃ d, L = i + d := ⟨L - i, by omega⟩
  rw [Nat.pow_add, Nat.add_mul_mod_self_left]

/-- One round of taking G away from W, modulo LB ^ L. -/
theorem take_step {W G L i br s k' : Nat} (hG : G ≤ LB ^ L) (hi : i < L) (hs : Hid (s = (Dg.dg LB W i + LB - Dg.dg LB G i - br) % LB)) (hk' : Hid (k' = bor (Dg.dg LB W i) (Dg.dg LB G i) br)) (hbr : Hid (br = Dg.bw LB W G i)) :
    s = Dg.dg LB (W + LB ^ L - G) i ∧ k' = Dg.bw LB W G (i + 1) := by
  refine ⟨?_, by rw [hk'.out, hbr.out, Dg.sub_step LB W G i LBpos]; rfl⟩
  rw [Dg.dg_sub LB (W + LB ^ L) G i LBpos (by omega), dg_add_pow hi, bw_add_pow (Nat.le_of_lt hi), ← hbr.out]
  exact hs.out

set_option maxRecDepth 100000 in
set_option maxHeartbeats 800000 in
theorem take_any (g o L cap N : Nat) (f : Nat → Nat) (vo : Option Addr) (m d q V W : Nat) (w : World) (hown : Own w .u32 60 g N f) (hoL : o + L ≤ N) (hcap : L ≤ cap) (hW : ∀ j, j < L → f (o + j) = Dg.dg LB W j) (hWl : W < LB ^ L)
    (hv : Rd w .u32 vo m d (Dg.dg LB V)) (hvg : blk vo ≠ g) (hV : V < LB ^ m) (hq : q < 4294967296) (hqV : q * V < LB ^ L) (hN : N ≤ 100000000) (_hm : m ≤ 100000000) :
    Calls Tryz.prog 75 #[.slice (some ⟨g, o, none⟩) L cap, .slice vo m d, .int .u64 q] w fun e w' =>
      e = .returned (.bool (decide (W < q * V))) ∧ Own w' .u32 60 g N (fun i => if o ≤ i ∧ i < o + L then Dg.dg LB (W + LB ^ L - q * V) (i - o) else f i) ∧ w.grownBy w' (some g) := by
  obtain ⟨G, hG⟩ : ∃ G, G = q * V := ⟨_, rfl⟩
  rw [← hG] at hqV ⊢
  obtain ⟨D, hD⟩ : ∃ D, D = W + LB ^ L - G := ⟨_, rfl⟩
  rw [← hD]
  obtain ⟨R, hR⟩ : ∃ R : Bool, R = decide (W < G) := ⟨_, rfl⟩
  rw [← hR]
  have HG := Lib.hid hG; have HD := Lib.hid hD; have HR := Lib.hid hR; have HW := Lib.hid hW; have HWL := Lib.hid hWl; have HV := Lib.hid hV; have HQV := Lib.hid hqV
  clear hG hD hR hW hWl hV hqV
  have hdV : ∀ j, Dg.dg LB V j < LB := Dg.dg_lt LBpos V
  have hdG : ∀ j, Dg.dg LB G j < LB := Dg.dg_lt LBpos G
  have hdW : ∀ j, Dg.dg LB W j < LB := Dg.dg_lt LBpos W
  have HDV := Lib.hid hdV; have HDG := Lib.hid hdG; have HDW := Lib.hid hdW
  clear hdV hdG hdW
  go_enter Tryz.func75, Tryz.ntmps75
  go_wp2_with fail
  go_loopw [7, 8, 12] (fun bv cv iv wr => ∃ i br cr : Nat, i ≤ L ∧ iv = .int .i64 i ∧ bv = .int .u32 br ∧ cv = .int .u64 cr ∧ br ≤ 1 ∧ cr ≤ q ∧ Hid (br = Dg.bw LB W G i) ∧ Hid (cr = q * (V % LB ^ i) / LB ^ i) ∧
      Own wr .u32 60 g N (fun j => if o ≤ j ∧ j < o + i then Dg.dg LB D (j - o) else f j) ∧ w.grownBy wr (some g)) (fun _ _ iv _ => L - (intOf iv).toNat)
  case atStart => exact ⟨0, 0, 0, Nat.zero_le _, rfl, rfl, rfl, Nat.zero_le _, Nat.zero_le _, (Dg.bw_zero _ _ _).symm, by simp [Nat.mod_one, Hid], hown.congr fun j _ => by rw [if_neg (by omega)], World.grownBy.refl _ _⟩
  case round =>
    obtain ⟨i, br, cr, hi, rfl, rfl, rfl, hbr1, hcrq, hbr, hcr, hown, hgr⟩ := hrel
    by_cases hiL : i < L
    · have hcell : wr.cell? ⟨g, o + i, none⟩ = some (.int .u32 (Dg.dg LB W i : Nat)) := by
        have h := hown.cell (o + i) (by omega)
        rw [if_neg (by omega), HW.out i hiL] at h
        exact h
      have hfr := hown.frozen (o + i)
      obtain ⟨xk, hxk⟩ : ∃ xk, xk = Dg.dg LB W i := ⟨_, rfl⟩
      rw [← hxk] at hcell
      have hxl : xk < 4294967296 := by rw [hxk]; exact HDW.out i
      have HXK := Lib.hid hxk; clear hxk
      have hsv := hv.sh
      by_cases him : i < m
      · have hcv : wr.cell? ⟨blk vo, off vo + i, none⟩ = some (.int .u32 (Dg.dg LB V i : Nat)) := (hv.grown hgr hvg).cell i him
        obtain ⟨vk, hvk⟩ : ∃ vk, vk = Dg.dg LB V i := ⟨_, rfl⟩
        rw [← hvk] at hcv
        have hvl : vk < 4294967296 := by rw [hvk]; exact HDV.out i
        have hvq : (vk : Int) * (q : Int) ≤ 18446744065119617025 := by
          have h1 : vk * q ≤ 4294967295 * 4294967295 := Nat.mul_le_mul (by omega) (by omega)
          have h2 : ((vk * q : Nat) : Int) = (vk : Int) * (q : Int) := Int.natCast_mul _ _
          omega
        have hvq0 : 0 ≤ (vk : Int) * (q : Int) := by
          have h2 : ((vk * q : Nat) : Int) = (vk : Int) * (q : Int) := Int.natCast_mul _ _
          omega
        obtain ⟨t, ht⟩ : ∃ t, t = cr + vk * q := ⟨_, rfl⟩
        have S := scale_step hcr.out (ht.trans (by rw [hvk]))
        have hti : ((cr : Int) + (vk : Int) * (q : Int)) = (t : Nat) := by rw [ht]; simp
        obtain ⟨yk, hyk⟩ : ∃ yk, yk = t % 4294967296 := ⟨_, rfl⟩
        have hyi : ((t : Int) % 4294967296) = (yk : Nat) := by rw [hyk]; simp
        have hyG : yk = Dg.dg LB G i := by rw [hyk, HG.out]; exact S.1
        have hyl : yk < 4294967296 := by omega
        have hti2 : (t : Int) / 4294967296 = ((t / 4294967296 : Nat) : Int) := by simp
        have HVK := Lib.hid hvk; have HT := Lib.hid ht; have HTI := Lib.hid hti; have HYK := Lib.hid hyk; have HYI := Lib.hid hyi; have HYG := Lib.hid hyG; have HTI2 := Lib.hid hti2
        clear hvk ht hti hyk hyi hyG hti2
        have hcrn : t / 4294967296 ≤ q := by rw [show t / 4294967296 = _ from S.2]; exact scale_le
        have HS := Lib.hid S; clear S
        go_wp2_with (go_at_call 111; rw [HTI.out, HYI.out]; refine (sub32_any xk yk br _ hxl hyl hbr1).mono ?_; rintro e w' ⟨s, k', rfl, hs, hk', rfl⟩)
        have h1 := hs.out; rw [HXK.out, HYG.out] at h1
        have h2 := hk'.out; rw [HXK.out, HYG.out] at h2
        have R := take_step (Nat.le_of_lt HQV.out) hiL h1 h2 hbr
        have hb2 : k' ≤ 1 := by rw [R.2]; exact Dg.bw_le _ _ _ _
        go_roundw
        case rel => exact ⟨i + 1, k', t / 4294967296, by omega, by go_num, rfl, by rw [← HTI2.out], hb2, hcrn, R.2, HS.out.2, own_set_int hown rfl (by rw [if_pos (by omega), Nat.add_sub_cancel_left, HD.out]; exact R.1) (fun j hj hne => by
            by_cases h3 : o ≤ j ∧ j < o + i
            · rw [if_pos h3, if_pos (by omega)]
            · rw [if_neg h3, if_neg (by omega)]), grown_set hgr⟩
        case measure => simp [intOf]; omega
      · have hv0 : Dg.dg LB V i = 0 := Dg.dg_of_lt_le LBpos HV.out (by omega)
        obtain ⟨t, ht⟩ : ∃ t, t = cr := ⟨_, rfl⟩
        have S := scale_step hcr.out (ht.trans (by rw [hv0]; simp))
        rw [ht] at S
        clear ht hv0
        obtain ⟨yk, hyk⟩ : ∃ yk, yk = cr % 4294967296 := ⟨_, rfl⟩
        have hyi : ((cr : Int) % 4294967296) = (yk : Nat) := by rw [hyk]; simp
        have hyG : yk = Dg.dg LB G i := by rw [hyk, HG.out]; exact S.1
        have hyl : yk < 4294967296 := by omega
        have hti2 : (cr : Int) / 4294967296 = ((cr / 4294967296 : Nat) : Int) := by simp
        have hcr' : (yk : Int) = cr := by omega
        have HYK := Lib.hid hyk; have HYI := Lib.hid hyi; have HYG := Lib.hid hyG; have HTI2 := Lib.hid hti2; have HCR' := Lib.hid hcr'
        clear hyk hyi hyG hti2 hcr'
        have hcrn : cr / 4294967296 ≤ q := by omega
        have HS := Lib.hid S; clear S
        go_wp2_with (go_at_call 111; rw [← HCR'.out]; refine (sub32_any xk yk br _ hxl hyl hbr1).mono ?_; rintro e w' ⟨s, k', rfl, hs, hk', rfl⟩)
        have h1 := hs.out; rw [HXK.out, HYG.out] at h1
        have h2 := hk'.out; rw [HXK.out, HYG.out] at h2
        have R := take_step (Nat.le_of_lt HQV.out) hiL h1 h2 hbr
        have hb2 : k' ≤ 1 := by rw [R.2]; exact Dg.bw_le _ _ _ _
        go_roundw
        case rel => exact ⟨i + 1, k', cr / 4294967296, by omega, by go_num, rfl, by rw [HCR'.out, HTI2.out], hb2, hcrn, R.2, HS.out.2, own_set_int hown rfl (by rw [if_pos (by omega), Nat.add_sub_cancel_left, HD.out]; exact R.1) (fun j hj hne => by
            by_cases h3 : o ≤ j ∧ j < o + i
            · rw [if_pos h3, if_pos (by omega)]
            · rw [if_neg h3, if_neg (by omega)]), grown_set hgr⟩
        case measure => simp [intOf]; omega
    · obtain rfl : i = L := by omega
      have hres : decide (br = 1) = R := by
        rw [HR.out, hbr.out]
        unfold Dg.bw
        rw [Nat.mod_eq_of_lt HWL.out]
        rw [Nat.mod_eq_of_lt HQV.out]
        by_cases hlt : W < G
        · rw [if_pos hlt]; simp [hlt]
        · rw [if_neg hlt]; simp [hlt]
      have HRES := Lib.hid hres; clear hres
      go_wp2
      go_ret
      exact ⟨ret_bool (by rw [beq_one, HRES.out]), hown, hgr⟩

/-- One round of adding V to W. -/
theorem give_step {W V i cr s k' : Nat} (hs : Hid (s = (Dg.dg LB W i + Dg.dg LB V i + cr) % LB)) (hk' : Hid (k' = (Dg.dg LB W i + Dg.dg LB V i + cr) / LB)) (hcr : Hid (cr = Dg.cy LB W V i)) :
    s = Dg.dg LB (W + V) i ∧ k' = Dg.cy LB W V (i + 1) := add_step hs hk' hcr

set_option maxRecDepth 100000 in
set_option maxHeartbeats 800000 in
theorem give_any (g o L cap N : Nat) (f : Nat → Nat) (vo : Option Addr) (m d V W : Nat) (w : World) (hown : Own w .u32 60 g N f) (hoL : o + L ≤ N) (hcap : L ≤ cap) (hW : ∀ j, j < L → f (o + j) = Dg.dg LB W j) (hWl : W < LB ^ L)
    (hv : Rd w .u32 vo m d (Dg.dg LB V)) (hvg : blk vo ≠ g) (hV : V < LB ^ m) (hmL : m ≤ L) (hN : N ≤ 100000000) (_hm : m ≤ 100000000) :
    Calls Tryz.prog 76 #[.slice (some ⟨g, o, none⟩) L cap, .slice vo m d] w fun e w' =>
      e = .returned (.bool (decide (LB ^ L ≤ W + V))) ∧ Own w' .u32 60 g N (fun i => if o ≤ i ∧ i < o + L then Dg.dg LB (W + V) (i - o) else f i) ∧ w.grownBy w' (some g) := by
  obtain ⟨D, hD⟩ : ∃ D, D = W + V := ⟨_, rfl⟩
  rw [← hD]
  obtain ⟨R, hR⟩ : ∃ R : Bool, R = decide (LB ^ L ≤ D) := ⟨_, rfl⟩
  rw [← hR]
  have HD := Lib.hid hD; have HR := Lib.hid hR; have HW := Lib.hid hW; have HWL := Lib.hid hWl; have HV := Lib.hid hV
  clear hD hR hW hWl hV
  have hdV : ∀ j, Dg.dg LB V j < LB := Dg.dg_lt LBpos V
  have hdW : ∀ j, Dg.dg LB W j < LB := Dg.dg_lt LBpos W
  have HDV := Lib.hid hdV; have HDW := Lib.hid hdW
  clear hdV hdW
  go_enter Tryz.func76, Tryz.ntmps76
  go_wp2_with fail
  go_loopw [5, 10] (fun bv iv wr => ∃ i br : Nat, i ≤ L ∧ iv = .int .i64 i ∧ bv = .int .u32 br ∧ br ≤ 1 ∧ Hid (br = Dg.cy LB W V i) ∧
      Own wr .u32 60 g N (fun j => if o ≤ j ∧ j < o + i then Dg.dg LB D (j - o) else f j) ∧ w.grownBy wr (some g)) (fun _ iv _ => L - (intOf iv).toNat)
  case atStart => exact ⟨0, 0, Nat.zero_le _, rfl, rfl, Nat.zero_le _, (Dg.cy_zero _ _ _).symm, hown.congr fun j _ => by rw [if_neg (by omega)], World.grownBy.refl _ _⟩
  case round =>
    obtain ⟨i, br, hi, rfl, rfl, hbr1, hbr, hown, hgr⟩ := hrel
    by_cases hiL : i < L
    · have hcell : wr.cell? ⟨g, o + i, none⟩ = some (.int .u32 (Dg.dg LB W i : Nat)) := by
        have h := hown.cell (o + i) (by omega)
        rw [if_neg (by omega), HW.out i hiL] at h
        exact h
      have hfr := hown.frozen (o + i)
      obtain ⟨xk, hxk⟩ : ∃ xk, xk = Dg.dg LB W i := ⟨_, rfl⟩
      rw [← hxk] at hcell
      have hxl : xk < 4294967296 := by rw [hxk]; exact HDW.out i
      have HXK := Lib.hid hxk; clear hxk
      have hsv := hv.sh
      by_cases him : i < m
      · have hcv : wr.cell? ⟨blk vo, off vo + i, none⟩ = some (.int .u32 (Dg.dg LB V i : Nat)) := (hv.grown hgr hvg).cell i him
        obtain ⟨vk, hvk⟩ : ∃ vk, vk = Dg.dg LB V i := ⟨_, rfl⟩
        rw [← hvk] at hcv
        have hvl : vk < 4294967296 := by rw [hvk]; exact HDV.out i
        have HVK := Lib.hid hvk; clear hvk
        go_wp2_with (go_at_call 112; refine (add32_any xk vk br _ hxl hvl hbr1).mono ?_; rintro e w' ⟨s, k', rfl, hs, hk', rfl⟩)
        have h1 := hs.out; rw [HXK.out, HVK.out] at h1
        have h2 := hk'.out; rw [HXK.out, HVK.out] at h2
        have R := give_step h1 h2 hbr
        have hb2 : k' ≤ 1 := by rw [R.2]; exact Dg.cy_le LBpos _ _ _
        go_roundw
        case rel => exact ⟨i + 1, k', by omega, by go_num, rfl, hb2, R.2, own_set_int hown rfl (by rw [if_pos (by omega), Nat.add_sub_cancel_left, HD.out]; exact R.1) (fun j hj hne => by
            by_cases h3 : o ≤ j ∧ j < o + i
            · rw [if_pos h3, if_pos (by omega)]
            · rw [if_neg h3, if_neg (by omega)]), grown_set hgr⟩
        case measure => simp [intOf]; omega
      · have hvk : 0 = Dg.dg LB V i := (Dg.dg_of_lt_le LBpos HV.out (by omega)).symm
        have HVK := Lib.hid hvk; clear hvk
        go_wp2_with (go_at_call 112; refine (add32_any xk 0 br _ hxl (by omega) hbr1).mono ?_; rintro e w' ⟨s, k', rfl, hs, hk', rfl⟩)
        have h1 := hs.out; rw [HXK.out, HVK.out] at h1
        have h2 := hk'.out; rw [HXK.out, HVK.out] at h2
        have R := give_step h1 h2 hbr
        have hb2 : k' ≤ 1 := by rw [R.2]; exact Dg.cy_le LBpos _ _ _
        go_roundw
        case rel => exact ⟨i + 1, k', by omega, by go_num, rfl, hb2, R.2, own_set_int hown rfl (by rw [if_pos (by omega), Nat.add_sub_cancel_left, HD.out]; exact R.1) (fun j hj hne => by
            by_cases h3 : o ≤ j ∧ j < o + i
            · rw [if_pos h3, if_pos (by omega)]
            · rw [if_neg h3, if_neg (by omega)]), grown_set hgr⟩
        case measure => simp [intOf]; omega
    · obtain rfl : i = L := by omega
      have hres : decide (br = 1) = R := by
        have hVi : V < LB ^ i := Nat.lt_of_lt_of_le HV.out (Nat.pow_le_pow_right LBpos hmL)
        have hp : 0 < LB ^ i := Nat.pow_pos LBpos
        rw [HR.out, hbr.out, HD.out]
        unfold Dg.cy
        rw [Nat.mod_eq_of_lt HWL.out, Nat.mod_eq_of_lt hVi]
        have h1 := HWL.out
        by_cases hle : LB ^ i ≤ W + V
        · have : (W + V) / LB ^ i = 1 := by rw [Nat.div_eq_sub_div hp hle, Nat.div_eq_of_lt (by omega)]
          simp [hle, this]
        · have : (W + V) / LB ^ i = 0 := Nat.div_eq_of_lt (by omega)
          simp [hle, this]
      have HRES := Lib.hid hres; clear hres
      go_wp2
      go_ret
      exact ⟨ret_bool (by rw [beq_one, HRES.out]), hown, hgr⟩
end Go.Proofs.YtjkjlbchbbpmaaaGreatDoor
/- limbs.shl: the walk. -/
namespace Go.Proofs.YtjkjlbchbbpmaaaGreatDoor
open Go.RowKit

theorem Own.drew {w : World} {k : IntKind} {e g n : Nat} {f : Nat → Nat} (h : Own w k e g n f) : Own w.drew k e g n f := h

/-- One round of a shift. -/
theorem shl_step {a i s x d : Nat} (hs : s < 32) (hx : x = Dg.dg LB a i) (hd : d = Dg.dg LB (a % LB ^ i * 2 ^ s) i) :
    (d ||| (x * 2 ^ s % LB)) = Dg.dg LB (a % LB ^ (i + 1) * 2 ^ s) i ∧ x * 2 ^ s / LB = Dg.dg LB (a % LB ^ (i + 1) * 2 ^ s) (i + 1) ∧ x * 2 ^ s / LB < LB ∧
      ∀ j, j ≠ i → j ≠ i + 1 → Dg.dg LB (a % LB ^ i * 2 ^ s) j = Dg.dg LB (a % LB ^ (i + 1) * 2 ^ s) j := by
  have hp : 0 < LB ^ i := Nat.pow_pos LBpos
  have hxl : x < LB := by rw [hx]; exact Dg.dg_lt LBpos a i
  have h2 : 2 ^ s ≤ LB := by
    have : 2 ^ s ≤ 2 ^ 32 := Nat.pow_le_pow_right (by omega) (by omega)
    rw [LB_eq]; omega
  have h2p : 0 < 2 ^ s := Nat.pow_pos (by omega)
  obtain ⟨r, hr⟩ : ∃ r, LB = 2 ^ s * r := ⟨2 ^ (32 - s), by rw [← Nat.pow_add, show s + (32 - s) = 32 from by omega]; rfl⟩
  obtain ⟨X, hX⟩ : ∃ X, X = a % LB ^ i * 2 ^ s := ⟨_, rfl⟩
  have hXl : X < LB ^ i * 2 ^ s := by rw [hX]; exact Nat.mul_lt_mul_of_pos_right (Nat.mod_lt _ hp) h2p
  have hXd : X / LB ^ i < 2 ^ s := by rw [Nat.div_lt_iff_lt_mul hp, Nat.mul_comm]; exact hXl
  have hd' : d = X / LB ^ i := by
    rw [hd, ← hX]; unfold Dg.dg; rw [Nat.mod_eq_of_lt (Nat.lt_of_lt_of_le hXd h2)]
  have hX' : a % LB ^ (i + 1) * 2 ^ s = X + LB ^ i * (x * 2 ^ s) := by
    rw [Dg.mod_succ, Nat.add_mul, ← hX, ← hx, Nat.mul_assoc]
  have e1 : (a % LB ^ (i + 1) * 2 ^ s) / LB ^ i = d + x * 2 ^ s := by
    rw [hX', Nat.add_mul_div_left _ _ hp, ← hd']
  have hd2 : d < 2 ^ s := by rw [hd']; exact hXd
  have hm : x * 2 ^ s % LB = 2 ^ s * (x % r) := by rw [Nat.mul_comm x, hr, Nat.mul_mod_mul_left]
  have hrp : 0 < r := by
    rcases Nat.eq_zero_or_pos r with h | h
    · rw [h, Nat.mul_zero] at hr; rw [LB_eq] at hr; omega
    · exact h
  have hlt : d + x * 2 ^ s % LB < LB := by
    rw [hm]
    have h3 : x % r ≤ r - 1 := by have := Nat.mod_lt x hrp; omega
    have h4 : 2 ^ s * (x % r) ≤ 2 ^ s * (r - 1) := Nat.mul_le_mul_left _ h3
    have h5 : 2 ^ s * (r - 1) + 2 ^ s = LB := by
      rw [← Nat.mul_succ, hr]; congr 1; omega
    omega
  have hdm := Nat.div_add_mod (x * 2 ^ s) LB
  have hq : x * 2 ^ s / LB < LB := by
    refine Nat.div_lt_of_lt_mul ?_
    exact Nat.lt_of_lt_of_le (Nat.mul_lt_mul_of_pos_right hxl h2p) (Nat.mul_le_mul_left _ h2)
  have e2 : (d + x * 2 ^ s) % LB = d + x * 2 ^ s % LB := by
    have : d + x * 2 ^ s = d + x * 2 ^ s % LB + LB * (x * 2 ^ s / LB) := by omega
    rw [this, Nat.add_mul_mod_self_left, Nat.mod_eq_of_lt hlt]
  have e3 : (d + x * 2 ^ s) / LB = x * 2 ^ s / LB := by
    have : d + x * 2 ^ s = d + x * 2 ^ s % LB + LB * (x * 2 ^ s / LB) := by omega
    rw [this, Nat.add_mul_div_left _ _ LBpos, Nat.div_eq_of_lt hlt, Nat.zero_add]
  refine ⟨?_, ?_, hq, fun j h1 h3 => ?_⟩
  · rw [Nat.or_comm, nat_join s _ _ (by rw [hm]; simp) hd2, Nat.add_comm]
    unfold Dg.dg
    rw [e1, e2]
  · have : Dg.dg LB (a % LB ^ (i + 1) * 2 ^ s) (i + 1) = (a % LB ^ (i + 1) * 2 ^ s) / LB ^ i / LB % LB := by
      unfold Dg.dg; rw [Nat.pow_succ LB i, ← Nat.div_div_eq_div_mul, ← Nat.pow_succ]
    rw [this, e1, e3, Nat.mod_eq_of_lt hq]
  · rw [← hX]
    by_cases hj : j < i
    · rw [hX']
      unfold Dg.dg
      obtain ⟨t, rfl⟩ : ∃ t, i = j + 1 + t := ⟨i - (j + 1), by omega⟩
      have e4 : LB ^ (j + 1 + t) * (x * 2 ^ s) = LB ^ j * (LB * (LB ^ t * (x * 2 ^ s))) := by
        rw [Nat.pow_add, Nat.pow_succ]; simp only [Nat.mul_assoc]
      rw [e4, Nat.add_mul_div_left _ _ (Nat.pow_pos LBpos), Nat.add_mul_mod_self_left]
    · have hlt2 : a % LB ^ (i + 1) * 2 ^ s < LB ^ (i + 2) := by
        have := Nat.mul_lt_mul_of_pos_right (Nat.mod_lt a (Nat.pow_pos (n := i + 1) LBpos)) h2p
        exact Nat.lt_of_lt_of_le this (by rw [Nat.pow_succ LB (i + 1)]; exact Nat.mul_le_mul_left _ h2)
      rw [Dg.dg_of_lt_le LBpos hlt2 (by omega), Dg.dg_of_lt_le LBpos (v := X) (i := i + 2) (by omega) (by omega)]

set_option maxRecDepth 100000 in
set_option maxHeartbeats 800000 in
theorem shl_any (ao : Option Addr) (n c a s : Nat) (w : World) (ha : Rd w .u32 ao n c (Dg.dg LB a)) (hal : a < LB ^ n) (hn : n ≤ 100000000) (hs : s < 32) :
    Calls Tryz.prog 74 #[.slice ao n c, .int .i64 s] w fun e w' =>
      ∃ g : Nat, e = .returned (.slice (some ⟨g, 0, none⟩) (n + 1) (n + 1)) ∧ w.heap.size ≤ g ∧ Own w' .u32 60 g (n + 1) (Dg.dg LB (a * 2 ^ s)) ∧ Below w.heap.size w w' := by
  have HAL := Lib.hid hal; clear hal
  go_enter Tryz.func74, Tryz.ntmps74
  go_wp2_with (refine wpList_make_row _ rfl (.tmp 10) (.tmp 10) _ rfl 60 .u32 4 Tryz.underlying72 info32 .i64 .i64 _ _ (n + 1) rfl rfl (by omega) (by omega) (by omega) (by omega) ?_; intro g w1 hg hown1 hb1)
  have hown2 : Own w1 .u32 60 g (n + 1) (Dg.dg LB (a % LB ^ 0 * 2 ^ s)) := hown1.congr fun j _ => by simp [Nat.mod_one, Dg.dg_zero]
  clear hown1
  go_loopw [14] (fun i wr => ∃ k : Nat, k ≤ n ∧ i = .int .i64 k ∧ Own wr .u32 60 g (n + 1) (Dg.dg LB (a % LB ^ k * 2 ^ s)) ∧ Below w.heap.size w wr) (fun i _ => n - (intOf i).toNat)
  case atStart => exact ⟨0, Nat.zero_le _, rfl, hown2, hb1⟩
  case round =>
    obtain ⟨i, hi, rfl, hown, hbel⟩ := hrel
    clear hown2
    by_cases hin : i < n
    · have hca : wr.cell? ⟨blk ao, off ao + i, none⟩ = some (.int .u32 (Dg.dg LB a i : Nat)) := (ha.below hbel (Nat.le_refl _)).cell i hin
      have hsa := ha.sh
      obtain ⟨x, hx⟩ : ∃ x, x = Dg.dg LB a i := ⟨_, rfl⟩
      rw [← hx] at hca
      have hxl : x < 4294967296 := by rw [hx]; exact Dg.dg_lt LBpos a i
      have HX := Lib.hid hx; clear hx
      have hco : wr.cell? ⟨g, i, none⟩ = some (.int .u32 (Dg.dg LB (a % LB ^ i * 2 ^ s) i : Nat)) := hown.cell i (by omega)
      have hc1 : wr.cell? ⟨g, i + 1, none⟩ = some (.int .u32 (Dg.dg LB (a % LB ^ i * 2 ^ s) (i + 1) : Nat)) := hown.cell (i + 1) (by omega)
      obtain ⟨d, hd⟩ : ∃ d, d = Dg.dg LB (a % LB ^ i * 2 ^ s) i := ⟨_, rfl⟩
      rw [← hd] at hco
      obtain ⟨d1, hd1⟩ : ∃ d, d = Dg.dg LB (a % LB ^ i * 2 ^ s) (i + 1) := ⟨_, rfl⟩
      rw [← hd1] at hc1
      have hdl : d < 4294967296 := by rw [hd]; exact Dg.dg_lt LBpos _ i
      have HD := Lib.hid hd; have HD1 := Lib.hid hd1; clear hd hd1
      have hf0 := hown.frozen i
      have hf1 := hown.frozen (i + 1)
      have hin' : (i : Int) < n := by omega
      go_wp2
      go_region
      go_wp2
      have R := shl_step hs HX.out HD.out
      have e1 : bits BinOp.or IntKind.u32 (d : Int) ((x : Int) * 2 ^ s % 4294967296) = ((d ||| (x * 2 ^ s % LB) : Nat) : Int) := by
        rw [← u32_or_nat d _ hdl (by rw [LB_eq]; exact Nat.mod_lt _ (by omega)), LB_eq]
        simp
      have e2 : IntKind.u64.wrap ((x : Int) * 2 ^ s) / 4294967296 % 4294967296 = ((x * 2 ^ s / LB : Nat) : Int) := by
        have h1 : x * 2 ^ s < 18446744073709551616 := by
          have h2 : 2 ^ s ≤ 2 ^ 32 := Nat.pow_le_pow_right (by omega) (by omega)
          have h3 : x * 2 ^ s ≤ 4294967295 * 2 ^ 32 := Nat.mul_le_mul (by omega) h2
          omega
        have h2 : ((x : Int) * 2 ^ s) = ((x * 2 ^ s : Nat) : Int) := by simp
        rw [h2, IntKind.wrap_u64, LB_eq]
        have h3 := R.2.2.1
        rw [LB_eq] at h3
        omega
      go_roundw
      case rel =>
        refine ⟨i + 1, by omega, by go_num, ?_, ?_⟩
        · exact (own_set_int (h := Dg.dg LB (a % LB ^ (i + 1) * 2 ^ s)) (own_set_int (h := fun j => if j = i then Dg.dg LB (a % LB ^ (i + 1) * 2 ^ s) i else Dg.dg LB (a % LB ^ i * 2 ^ s) j) hown e1 (by simp [R.1]) (fun j _ hj => by simp [hj])) e2 R.2.1 (fun j _ hj => by
            by_cases h1 : j = i
            · subst h1; simp
            · simp [h1]; exact R.2.2.2 j h1 hj)).drew
        · exact ((hbel.setCell hg _).setCell hg _).drew
      case measure => simp [intOf]; omega
    · obtain rfl : i = n := by omega
      go_wp2
      go_ret
      have h := hown
      rw [Nat.mod_eq_of_lt HAL.out] at h
      exact ⟨g, rfl, hg, h, hbel⟩
end Go.Proofs.YtjkjlbchbbpmaaaGreatDoor
