/- LRefN LRefF LRefForm, in one text. -/
import Derived.Test.YthpagppipifgeaaGreatDoorZLX
import Derived.Test.YthpagppipifgeaaGreatDoorZLB
import Derived.Test.YthpagppipifgeaaGreatDoorZLA
import Derived.Test.YthpagppipifgeaaGreatDoorZLRead0
import Derived.Deep.Light
import Derived.Deep.CutBlock
/- ostiaryref20.nodes, deep: the walks. -/
namespace Go.Proofs.YthpagppipifgeaaGreatDoor
open Go.RowKit

/-- The nodes of a forest behind a number of them, as the document's answer counts them. -/
def Fo.ndsR : Fo → Int → Int
  | .nil, a => a
  | .cons _ _ _ _ kids nx, a => nx.ndsR (wrap64 (a + kids.ndsR 1))
theorem ndsR_nat (F : Fo) : ∀ a : Int, 0 ≤ a → a + F.cnt ≤ 2000000 → F.ndsR a = a + F.cnt := by
  induction F with
  | nil => intro a _ _; simp [Fo.ndsR, Fo.cnt]
  | cons k o n t kids nx ih1 ih2 =>
    intro a h0 h1
    simp only [Fo.cnt] at h1
    have e1 := ih1 1 (by omega) (by omega)
    have e : wrap64 (a + kids.ndsR 1) = a + 1 + kids.cnt := by rw [e1]; unfold wrap64; omega
    simp only [Fo.ndsR, Fo.cnt, e]
    rw [ih2 _ (by omega) (by omega)]
    omega
def NodesAt (F : Fo) : Prop := ∀ (k o : Int) (n t : ByteArray) (ad : Option Addr) (c : Nat) (w : World), SlF w F ad c →
  Calls Tryz.prog 30 #[pv k o n t ad F.len c] w (RetI (F.ndsR 1) w)
set_option maxRecDepth 100000 in
set_option maxHeartbeats 2000000 in
theorem nodes_step (F : Fo) (h : F.All NodesAt) : NodesAt F := by
  intro k o n t ad c w hs
  have hMX := MX_eq
  obtain ⟨hle, hcm, b, f, had, hrow⟩ := hs
  obtain ⟨w0, hw0⟩ : ∃ w0, w0 = w.alloc (.cells #[.int .i64 k, .int .i64 o, .string n, .string t, .slice ad F.len c] 24) := ⟨_, rfl⟩
  have hgo : Below w.heap.size w w0 := by rw [hw0]; exact b_alloc w _
  have hz : w.heap.size < w0.heap.size := by rw [hw0]; simp
  have hc4 : w0.cell? ⟨w.heap.size, 4, none⟩ = some (.slice ad F.len c) := by rw [hw0]; simp
  go_enter Tryz.func30, Tryz.ntmps30
  go_upto_region 3 with fail
  rw [← hw0]
  clear hw0
  go_loopg [3, 4] F.len (fun gg s3 s4 wr => ∃ (kk : Nat) (G : Fo) (a : Int), kk + G.len = F.len ∧ gg = G.len ∧ s3 = .int .i64 a ∧ s4 = .int .i64 kk ∧ Aside (Below w0.heap.size w0 wr) ∧ Aside (Row w G b (f + 5 * kk)) ∧ Aside (G.All NodesAt) ∧ Aside (G.ndsR a = F.ndsR 1))
  case atStart => exact ⟨0, F, 1, by omega, rfl, rfl, rfl, Below.refl _ _, hrow, h, rfl⟩
  case round =>
    obtain ⟨kk, G, a, hkk, rfl, rfl, rfl, BW, HR, HP, HA⟩ := hrel
    have c4 := (BW.out.cell (p := ⟨w.heap.size, 4, none⟩) hz).trans hc4
    have hBW0 : Below w.heap.size w wr := hgo.trans (BW.out.mono hgo.size)
    cases G with
    | nil =>
      have hltz : ¬ (kk : Int) < (F.len : Int) := by simp only [Fo.len] at hkk; omega
      have HB := Lib.hid hBW0
      clear hBW0
      go_wp2_with fail
      go_ret
      have ha : a = F.ndsR 1 := HA.out
      refine ⟨?_, HB.out⟩
      rw [← ha]; rfl
    | cons k1 o1 n1 t1 kids nx =>
      have hln : (Fo.cons k1 o1 n1 t1 kids nx).len = nx.len + 1 := rfl
      have hltz : (kk : Int) < (F.len : Int) := by omega
      obtain ⟨a1, c1, h0, h1, h2, h3, h4, r1, r2, hsl, _⟩ := (HR.out.below hBW0 (Nat.le_refl _)).kids
      obtain ⟨_, _, _, _, _, _, _, _, _, _, hrn⟩ := HR.out.kids
      obtain rfl : ad = some ⟨b, f, none⟩ := by rcases had with h | ⟨_, h⟩; exact h; omega
      rw [show f + 5 * kk = f + kk * 5 by omega] at h0 h1 h2 h3 h4
      obtain ⟨hp1, hpn⟩ := HP.out
      have HC : Hid (∀ w1, Below wr.heap.size wr w1 → Calls Tryz.prog 30 #[pv k1 o1 n1 t1 a1 kids.len c1] w1 (RetI (kids.ndsR 1) w1)) := Lib.hid fun w1 hb => hp1 k1 o1 n1 t1 a1 c1 w1 (hsl.grown hb)
      have hPn : Aside _ := hpn
      have hRn : Aside _ := hrn
      have HA2 := Lib.hid HA.out
      obtain ⟨N, hN⟩ : ∃ N, N = kids.ndsR 1 := ⟨_, rfl⟩
      rw [← hN] at HC
      have HN := Lib.hid hN
      clear hpn hrn hsl hp1 HP HR hBW0 HA hN
      go_wp2_with (go_at_call 30; refine (HC.out _ (Below.refl _ _)).mono ?_; rintro e w1 ⟨rfl, hb⟩)
      all_goals
        go_roundg nx.len
        case measure => omega
        case rel =>
          refine ⟨kk + 1, nx, wrap64 (a + N), by omega, rfl, congrArg _ (by first | rfl | omega), by go_num, b_trans BW.out hb, ?_, hPn.out, ?_⟩
          · rw [show f + 5 * (kk + 1) = f + 5 * kk + 5 by omega]; exact hRn.out
          · rw [← HA2.out, HN.out]; rfl
theorem nodes_any (F : Fo) : NodesAt F := Fo.rec_all nodes_step F
def DeepAt (F : Fo) : Prop := ∀ (k o : Int) (n t : ByteArray) (ad : Option Addr) (c : Nat) (w : World), SlF w F ad c →
  Calls Tryz.prog 31 #[pv k o n t ad F.len c] w (RetI (depP F) w)
set_option maxRecDepth 100000 in
set_option maxHeartbeats 2000000 in
theorem deep_step (F : Fo) (h : F.All DeepAt) : DeepAt F := by
  intro k o n t ad c w hs
  have hMX := MX_eq
  obtain ⟨hle, hcm, b, f, had, hrow⟩ := hs
  obtain ⟨w0, hw0⟩ : ∃ w0, w0 = w.alloc (.cells #[.int .i64 k, .int .i64 o, .string n, .string t, .slice ad F.len c] 24) := ⟨_, rfl⟩
  have hgo : Below w.heap.size w w0 := by rw [hw0]; exact b_alloc w _
  have hz : w.heap.size < w0.heap.size := by rw [hw0]; simp
  have hc4 : w0.cell? ⟨w.heap.size, 4, none⟩ = some (.slice ad F.len c) := by rw [hw0]; simp
  go_enter Tryz.func31, Tryz.ntmps31
  go_upto_region 3 with fail
  rw [← hw0]
  clear hw0
  go_loopg [3, 4] F.len (fun gg s3 s4 wr => ∃ (kk : Nat) (G : Fo) (a : Int), kk + G.len = F.len ∧ gg = G.len ∧ s3 = .int .i64 a ∧ s4 = .int .i64 kk ∧ Aside (Below w0.heap.size w0 wr) ∧ Aside (Row w G b (f + 5 * kk)) ∧ Aside (G.All DeepAt) ∧ Aside (G.dep a = F.dep 0))
  case atStart => exact ⟨0, F, 0, by omega, rfl, rfl, rfl, Below.refl _ _, hrow, h, rfl⟩
  case round =>
    obtain ⟨kk, G, a, hkk, rfl, rfl, rfl, BW, HR, HP, HA⟩ := hrel
    have c4 := (BW.out.cell (p := ⟨w.heap.size, 4, none⟩) hz).trans hc4
    have hBW0 : Below w.heap.size w wr := hgo.trans (BW.out.mono hgo.size)
    cases G with
    | nil =>
      have hltz : ¬ (kk : Int) < (F.len : Int) := by simp only [Fo.len] at hkk; omega
      have HB := Lib.hid hBW0
      clear hBW0
      go_wp2_with fail
      go_ret
      have ha : a = F.dep 0 := HA.out
      refine ⟨?_, HB.out⟩
      unfold depP; rw [← ha]; rfl
    | cons k1 o1 n1 t1 kids nx =>
      have hln : (Fo.cons k1 o1 n1 t1 kids nx).len = nx.len + 1 := rfl
      have hltz : (kk : Int) < (F.len : Int) := by omega
      obtain ⟨a1, c1, h0, h1, h2, h3, h4, r1, r2, hsl, _⟩ := (HR.out.below hBW0 (Nat.le_refl _)).kids
      obtain ⟨_, _, _, _, _, _, _, _, _, _, hrn⟩ := HR.out.kids
      obtain rfl : ad = some ⟨b, f, none⟩ := by rcases had with h | ⟨_, h⟩; exact h; omega
      rw [show f + 5 * kk = f + kk * 5 by omega] at h0 h1 h2 h3 h4
      obtain ⟨hp1, hpn⟩ := HP.out
      have HC : Hid (∀ w1, Below wr.heap.size wr w1 → Calls Tryz.prog 31 #[pv k1 o1 n1 t1 a1 kids.len c1] w1 (RetI (depP kids) w1)) := Lib.hid fun w1 hb => hp1 k1 o1 n1 t1 a1 c1 w1 (hsl.grown hb)
      have hPn : Aside _ := hpn
      have hRn : Aside _ := hrn
      have HA2 := Lib.hid HA.out
      obtain ⟨N, hN⟩ : ∃ N, N = depP kids := ⟨_, rfl⟩
      rw [← hN] at HC
      have HN := Lib.hid hN
      clear hpn hrn hsl hp1 HP HR hBW0 HA hN
      go_wp2_with (go_at_call 31; refine (HC.out _ (Below.refl _ _)).mono ?_; rintro e w1 ⟨rfl, hb⟩)
      all_goals
        go_roundg nx.len
        case measure => omega
        case rel =>
          refine ⟨kk + 1, nx, max a N, by omega, rfl, congrArg _ (by first | rfl | omega), by go_num, b_trans BW.out hb, ?_, hPn.out, ?_⟩
          · rw [show f + 5 * (kk + 1) = f + 5 * kk + 5 by omega]; exact hRn.out
          · rw [← HA2.out, HN.out]; rfl
theorem deep_any (F : Fo) : DeepAt F := Fo.rec_all deep_step F
end Go.Proofs.YthpagppipifgeaaGreatDoor
/- ostiaryref20.Name, Literal: the walks. -/
namespace Go.Proofs.YthpagppipifgeaaGreatDoor
open Go.RowKit

theorem all_step {l : List UInt8} {i : Nat} {x : UInt8} (hx : l[i]? = some x) (f : UInt8 → Bool) : (l.drop i).all f = (f x && (l.drop (i + 1)).all f) := by
  obtain ⟨hi, rfl⟩ := List.getElem?_eq_some_iff.1 hx
  rw [List.drop_eq_getElem_cons hi, List.all_cons]
theorem nmC_iff (x : UInt8) : nmC x = true ↔ ((97 ≤ x.toNat ∧ x.toNat ≤ 122) ∨ (48 ≤ x.toNat ∧ x.toNat ≤ 57) ∨ x.toNat = 95 ∨ x.toNat = 45) := by
  unfold nmC
  simp only [Bool.or_eq_true, Bool.and_eq_true, decide_eq_true_eq, beq_iff_eq]
  omega
set_option maxRecDepth 100000 in
theorem nameR_bs (l : List UInt8) (w : World) (hl : l.length ≤ SB) : Calls Tryz.prog 51 #[.string (bs l)] w fun e w' => e = .returned (.bool (nameB (bs l))) ∧ w' = w := by
  have hSB := SB_eq
  have hsz := bs_size l
  have hnm : nameB (bs l) = (decide (1 ≤ l.length) && decide (l.length ≤ 32) && l.all nmC) := by unfold nameB; rw [hsz, bs_data]
  obtain ⟨RR, hRR⟩ : ∃ RR, RR = nameB (bs l) := ⟨_, rfl⟩
  rw [← hRR]
  have HN := Lib.hid (hRR.trans hnm)
  clear hRR hnm
  go_enter Tryz.func51, Tryz.ntmps51
  go_upto_region 2 with fail
  go_loopg [3, 4] l.length (fun gg s3 s4 wr => ∃ i : Nat, i ≤ l.length ∧ gg = l.length - i ∧ s3 = .int .i64 i ∧ wr = w ∧ Aside (l.all nmC = (l.drop i).all nmC))
  case atStart => exact ⟨0, Nat.zero_le _, rfl, rfl, rfl, rfl⟩
  case round =>
    obtain ⟨i, hil, rfl, rfl, rfl, HA⟩ := hrel
    by_cases hlt : i < l.length
    · have hltz : (i : Int) < (l.length : Int) := by omega
      obtain ⟨x, hx⟩ : ∃ x, l[i]? = some x := ⟨l[i], by simp [hlt]⟩
      have hgi := bs_get l i x hx
      have has := all_step hx nmC
      rw [← HA.out] at has
      have HAS := Lib.hid has
      have hx256 : x.toNat < 256 := UInt8.toNat_lt x
      clear hx has HA
      go_upto_region 5 with fail
      go_cut [4, 35] (fun s4 s35 wx => s4 = .int .u8 x.toNat ∧ s35 = .bool (!nmC x) ∧ wx = wr)
      case first =>
        clear hgi HAS HN hsz hl hSB hlt hltz hil
        have HC := Lib.hid (nmC_iff x)
        by_cases h95 : x.toNat = 95
        · have z95 : (x.toNat : Int) = 95 := by omega
          have hv : nmC x = true := HC.out.2 (by omega)
          have HV := Lib.hid hv
          clear hv HC
          go_wp2_with fail
          all_goals
            go_meet
            refine ⟨?_, ?_, rfl⟩
            all_goals first | rfl | (rw [HV.out]; rfl) | (rw [z95]) | trace_state
        · have z95 : ¬ (x.toNat : Int) = 95 := by omega
          go_wp2_with fail
          all_goals
            go_meet
            refine ⟨rfl, ?_, rfl⟩
            refine congrArg Value.bool ?_
            rw [Bool.eq_iff_iff, Bool.not_eq_true', Bool.eq_false_iff, ne_eq, HC.out]
            simp only [Bool.and_eq_true, Bool.or_eq_true, decide_eq_true_eq, bne_iff_ne, ne_eq, Bool.false_eq_true, false_iff]
            clear HC
            omega
      case rest =>
      obtain ⟨rfl, rfl, rfl⟩ := hcut
      cases hv : nmC x with
      | true =>
        go_wp2_with fail
        go_roundg (l.length - (i + 1))
        case measure => omega
        case rel => exact ⟨i + 1, by omega, rfl, by go_num, rfl, by rw [HAS.out, hv]; rfl⟩
      | false =>
        go_wp2_with fail
        go_ret
        have := HAS.out
        rw [hv] at this
        exact ⟨by rw [HN.out, this]; simp, rfl⟩
    · have hltz : ¬ (i : Int) < (l.length : Int) := by omega
      obtain rfl : i = l.length := by omega
      have hall : l.all nmC = true := by rw [HA.out, List.drop_length]; rfl
      have HL := Lib.hid hall
      clear HA hall
      by_cases h1 : 1 ≤ l.length
      · by_cases h32 : l.length ≤ 32
        · have z1 : (1 : Int) ≤ (l.length : Int) := by omega
          have z2 : (l.length : Int) ≤ 32 := by omega
          go_wp2_with fail
          go_ret
          exact ⟨by rw [HN.out, HL.out]; simp [h1, h32], rfl⟩
        · have z1 : (1 : Int) ≤ (l.length : Int) := by omega
          have z2 : ¬ (l.length : Int) ≤ 32 := by omega
          go_wp2_with fail
          go_ret
          exact ⟨by rw [HN.out, HL.out]; simp [h1, h32], rfl⟩
      · have z1 : ¬ (1 : Int) ≤ (l.length : Int) := by omega
        go_wp2_with fail
        go_ret
        exact ⟨by rw [HN.out, HL.out]; simp [h1], rfl⟩
set_option maxRecDepth 100000 in
theorem litR_bs (l : List UInt8) (w : World) (hl : l.length ≤ SB) : Calls Tryz.prog 50 #[.string (bs l)] w fun e w' => e = .returned (.bool (litB (bs l))) ∧ w' = w := by
  have hSB := SB_eq
  have hsz := bs_size l
  have hnm : litB (bs l) = (decide (l.length ≤ 64) && l.all ltC) := by unfold litB; rw [hsz, bs_data]
  obtain ⟨RR, hRR⟩ : ∃ RR, RR = litB (bs l) := ⟨_, rfl⟩
  rw [← hRR]
  have HN := Lib.hid (hRR.trans hnm)
  clear hRR hnm
  go_enter Tryz.func50, Tryz.ntmps50
  go_upto_region 2 with fail
  go_loopg [3] l.length (fun gg s3 wr => ∃ i : Nat, i ≤ l.length ∧ gg = l.length - i ∧ s3 = .int .i64 i ∧ wr = w ∧ Aside (l.all ltC = (l.drop i).all ltC))
  case atStart => exact ⟨0, Nat.zero_le _, rfl, rfl, rfl, rfl⟩
  case round =>
    obtain ⟨i, hil, rfl, rfl, rfl, HA⟩ := hrel
    by_cases hlt : i < l.length
    · have hltz : (i : Int) < (l.length : Int) := by omega
      obtain ⟨x, hx⟩ : ∃ x, l[i]? = some x := ⟨l[i], by simp [hlt]⟩
      have hgi := bs_get l i x hx
      have has := all_step hx ltC
      rw [← HA.out] at has
      have HAS := Lib.hid has
      have hx256 : x.toNat < 256 := UInt8.toNat_lt x
      clear hx has HA
      by_cases h32 : x.toNat < 32
      · have z : (x.toNat : Int) < 32 := by omega
        have hv : ltC x = false := by unfold ltC; simp; omega
        have HV := Lib.hid hv
        clear hv
        go_wp2_with fail
        go_ret
        have := HAS.out
        rw [HV.out] at this
        exact ⟨by rw [HN.out, this]; simp, rfl⟩
      · have z : ¬ (x.toNat : Int) < 32 := by omega
        by_cases h126 : 126 < x.toNat
        · have z2 : (126 : Int) < (x.toNat : Int) := by omega
          have hv : ltC x = false := by unfold ltC; simp; omega
          have HV := Lib.hid hv
          clear hv
          go_wp2_with fail
          go_ret
          have := HAS.out
          rw [HV.out] at this
          exact ⟨by rw [HN.out, this]; simp, rfl⟩
        · have z2 : ¬ (126 : Int) < (x.toNat : Int) := by omega
          have hv : ltC x = true := by unfold ltC; simp; omega
          have HV := Lib.hid hv
          clear hv
          go_wp2_with fail
          go_roundg (l.length - (i + 1))
          case measure => omega
          case rel => exact ⟨i + 1, by omega, rfl, by go_num, rfl, by rw [HAS.out, HV.out]; rfl⟩
    · have hltz : ¬ (i : Int) < (l.length : Int) := by omega
      obtain rfl : i = l.length := by omega
      have hall : l.all ltC = true := by rw [HA.out, List.drop_length]; rfl
      have HL := Lib.hid hall
      clear HA hall
      by_cases h64 : l.length ≤ 64
      · have z2 : (l.length : Int) ≤ 64 := by omega
        go_wp2_with fail
        go_ret
        exact ⟨by rw [HN.out, HL.out]; simp [h64], rfl⟩
      · have z2 : ¬ (l.length : Int) ≤ 64 := by omega
        go_wp2_with fail
        go_ret
        exact ⟨by rw [HN.out, HL.out]; simp [h64], rfl⟩
theorem bs_of2 (s : ByteArray) : bs s.data.toList = s := by cases s; simp [bs]
theorem nameR_any (s : ByteArray) (w : World) (h : s.size ≤ SB) : Calls Tryz.prog 51 #[.string s] w fun e w' => e = .returned (.bool (nameB s)) ∧ w' = w := by
  have := nameR_bs s.data.toList w (by simpa using h)
  rw [bs_of2] at this
  exact this
theorem litR_any (s : ByteArray) (w : World) (h : s.size ≤ SB) : Calls Tryz.prog 50 #[.string s] w fun e w' => e = .returned (.bool (litB s)) ∧ w' = w := by
  have := litR_bs s.data.toList w (by simpa using h)
  rw [bs_of2] at this
  exact this
end Go.Proofs.YthpagppipifgeaaGreatDoor
/- ostiaryref20.form: the walk. -/
namespace Go.Proofs.YthpagppipifgeaaGreatDoor
open Go.RowKit

theorem nodeB_0 (o : Int) (n t : ByteArray) (l : Nat) (m : Bool) : nodeB 0 o n t l m = (plainB o n t && decide (l = 0)) := by simp [nodeB]
theorem nodeB_1 (o : Int) (n t : ByteArray) (l : Nat) (m : Bool) : nodeB 1 o n t l m = (plainB o n t && decide (l = 1) && m) := by simp [nodeB]
theorem nodeB_2 (o : Int) (n t : ByteArray) (l : Nat) (m : Bool) : nodeB 2 o n t l m = (plainB o n t && decide (2 ≤ l) && m) := by simp [nodeB]
theorem nodeB_3 (o : Int) (n t : ByteArray) (l : Nat) (m : Bool) : nodeB 3 o n t l m = (plainB o n t && decide (2 ≤ l) && m) := by simp [nodeB]
theorem nodeB_4 (k : Int) (hk : k = 4 ∨ k = 5 ∨ k = 6) (o : Int) (n t : ByteArray) (l : Nat) (m : Bool) : nodeB k o n t l m = (decide (l = 0) && decide (0 ≤ o) && decide (o < 4) && (if o = 2 ∨ o = 3 then nameB n else decide (n.toList = [])) && litB t) := by
  rcases hk with rfl | rfl | rfl <;> simp [nodeB]
theorem nodeB_4o (k : Int) (hk : k = 4 ∨ k = 5 ∨ k = 6) {o : Int} (o0 : ¬ o = 0) (o1 : ¬ o = 1) (o2 : ¬ o = 2) (o3 : ¬ o = 3) (n t : ByteArray) (l : Nat) (m : Bool) : nodeB k o n t l m = false := by
  rw [nodeB_4 k hk]
  by_cases h1 : 0 ≤ o
  · have h2 : ¬ o < 4 := by omega
    simp [h2]
  · simp [h1]
def FormAt (F : Fo) : Prop := ∀ (k o : Int) (n t : ByteArray) (ad : Option Addr) (c : Nat) (w : World), n.size ≤ SB → t.size ≤ SB → SlF w F ad c →
  Calls Tryz.prog 29 #[pv k o n t ad F.len c] w (RetB (mayP k o n t F) w)
set_option maxRecDepth 100000 in
set_option maxHeartbeats 4000000 in
theorem form_step (F : Fo) (h : F.All FormAt) : FormAt F := by
  intro k o n t ad c w hn ht hs
  have hMX := MX_eq
  have hNm : Hid (∀ w1, Calls Tryz.prog 51 #[.string n] w1 fun e w' => e = .returned (.bool (nameB n)) ∧ w' = w1) := Lib.hid fun w1 => nameR_any n w1 hn
  have hLt : Hid (∀ w1, Calls Tryz.prog 50 #[.string t] w1 fun e w' => e = .returned (.bool (litB t)) ∧ w' = w1) := Lib.hid fun w1 => litR_any t w1 ht
  obtain ⟨hle, hcm, b, f, had, hrow⟩ := hs
  have hgo : Below w.heap.size w (w.alloc (.cells #[.int .i64 k, .int .i64 o, .string n, .string t, .slice ad F.len c] 24)) := b_alloc w _
  have hLz : 0 ≤ (F.len : Int) := by omega
  have hz : w.heap.size < (w.alloc (.cells #[.int .i64 k, .int .i64 o, .string n, .string t, .slice ad F.len c] 24)).heap.size := by simp
  have hc4 : (w.alloc (.cells #[.int .i64 k, .int .i64 o, .string n, .string t, .slice ad F.len c] 24)).cell? ⟨w.heap.size, 4, none⟩ = some (.slice ad F.len c) := by simp
  obtain ⟨RR, hRR⟩ : ∃ RR, RR = mayP k o n t F := ⟨_, rfl⟩
  rw [← hRR]
  have HRR := Lib.hid hRR
  have HP0 := Lib.hid h
  have HR0 := Lib.hid hrow
  have HC4 := Lib.hid hc4
  have HGO := Lib.hid hgo
  clear hRR h hrow hc4 hgo
  go_enter Tryz.func29, Tryz.ntmps29
  go_upto_region 1 with fail
  go_cut [3] (fun s3 wx => s3 = .bool (plainB o n t) ∧ wx = w.alloc (.cells #[.int .i64 k, .int .i64 o, .string n, .string t, .slice ad F.len c] 24))
  case first =>
    clear had
    by_cases ho : o = 0
    · subst ho
      go_wp2_with fail
      all_goals (go_meet; refine ⟨?_, rfl⟩; go_light; simp_all [plainB, isE])
    · have heo : (o == 0) = false := by simp [ho]
      go_wp2_with fail
      all_goals (go_meet; refine ⟨?_, rfl⟩; go_light; simp_all [plainB])
  case rest =>
  obtain ⟨rfl, rfl⟩ := hcut
  generalize hpl : plainB o n t = pl
  have HPL : Hid (plainB o n t = pl) := hpl
  clear hpl
  go_upto_block 0 with fail
  go_cut [] (fun wx => Aside (RR = F.may) ∧ wx = w.alloc (.cells #[.int .i64 k, .int .i64 o, .string n, .string t, .slice ad F.len c] 24))
  case first =>
    clear had HP0 HR0 HC4 HGO hz
    have HRB : Hid (RR = nodeB k o n t F.len F.may) := HRR
    clear HRR
    obtain ⟨lb, hlb⟩ : ∃ lb, lb = litB t := ⟨_, rfl⟩
    obtain ⟨nb, hnb⟩ : ∃ nb, nb = nameB n := ⟨_, rfl⟩
    rw [← hlb] at hLt
    rw [← hnb] at hNm
    have HLB := Lib.hid hlb
    have HNB := Lib.hid hnb
    clear hlb hnb
    by_cases k0 : k = 0
    · subst k0
      cases pl with
      | false =>
        go_wp2_with fail
        go_ret; exact ⟨congrArg (fun b : Bool => Ending.returned (Value.bool b)) (show false = RR by rw [HRB.out, nodeB_0, HPL.out]; rfl), b_alloc _ _⟩
      | true =>
        by_cases hL : F.len = 0
        · have hd : ((F.len : Int) == 0) = true := by rw [beq0]; simp [hL]
          have hr : true = RR := by rw [HRB.out, nodeB_0, HPL.out, hL]; rfl
          have hR := Lib.hid hr
          clear hr hL
          go_wp2_with fail
          go_ret; exact ⟨congrArg (fun b : Bool => Ending.returned (Value.bool b)) (hR.out), b_alloc _ _⟩
        · have hd : ((F.len : Int) == 0) = false := by rw [beq0]; simp [hL]
          have hr : false = RR := by rw [HRB.out, nodeB_0, HPL.out]; simp [hL]
          have hR := Lib.hid hr
          clear hr hL
          go_wp2_with fail
          go_ret; exact ⟨congrArg (fun b : Bool => Ending.returned (Value.bool b)) (hR.out), b_alloc _ _⟩
    by_cases k1 : k = 1
    · subst k1
      cases pl with
      | false =>
        go_wp2_with fail
        go_ret; exact ⟨congrArg (fun b : Bool => Ending.returned (Value.bool b)) (show false = RR by rw [HRB.out, nodeB_1, HPL.out]; rfl), b_alloc _ _⟩
      | true =>
        by_cases hL : F.len = 1
        · have hd : ((F.len : Int) != 1) = false := by rw [hL]; rfl
          have hr : RR = F.may := by rw [HRB.out, nodeB_1, HPL.out]; simp [hL]
          have hR := Lib.hid hr
          clear hr hL
          go_wp2_with fail
          go_meet
          exact ⟨hR.out, rfl⟩
        · have hd : ((F.len : Int) != 1) = true := bne_iff_ne.2 (by omega)
          have hr : false = RR := by rw [HRB.out, nodeB_1, HPL.out]; simp [hL]; try omega
          have hR := Lib.hid hr
          clear hr hL
          go_wp2_with fail
          go_ret; exact ⟨congrArg (fun b : Bool => Ending.returned (Value.bool b)) (hR.out), b_alloc _ _⟩
    by_cases k2 : k = 2
    · subst k2
      cases pl with
      | false =>
        go_wp2_with fail
        go_ret; exact ⟨congrArg (fun b : Bool => Ending.returned (Value.bool b)) (show false = RR by rw [HRB.out, nodeB_2, HPL.out]; rfl), b_alloc _ _⟩
      | true =>
        by_cases hL : 2 ≤ F.len
        · have hd : ¬ (F.len : Int) < 2 := by omega
          have hr : RR = F.may := by rw [HRB.out, nodeB_2, HPL.out]; simp [hL]
          have hR := Lib.hid hr
          clear hr hL
          go_wp2_with fail
          go_meet
          exact ⟨hR.out, rfl⟩
        · have hd : (F.len : Int) < 2 := by omega
          have hr : false = RR := by rw [HRB.out, nodeB_2, HPL.out]; simp [hL]; try omega
          have hR := Lib.hid hr
          clear hr hL
          go_wp2_with fail
          go_ret; exact ⟨congrArg (fun b : Bool => Ending.returned (Value.bool b)) (hR.out), b_alloc _ _⟩
    by_cases k3 : k = 3
    · subst k3
      cases pl with
      | false =>
        go_wp2_with fail
        go_ret; exact ⟨congrArg (fun b : Bool => Ending.returned (Value.bool b)) (show false = RR by rw [HRB.out, nodeB_3, HPL.out]; rfl), b_alloc _ _⟩
      | true =>
        by_cases hL : 2 ≤ F.len
        · have hd : ¬ (F.len : Int) < 2 := by omega
          have hr : RR = F.may := by rw [HRB.out, nodeB_3, HPL.out]; simp [hL]
          have hR := Lib.hid hr
          clear hr hL
          go_wp2_with fail
          go_meet
          exact ⟨hR.out, rfl⟩
        · have hd : (F.len : Int) < 2 := by omega
          have hr : false = RR := by rw [HRB.out, nodeB_3, HPL.out]; simp [hL]; try omega
          have hR := Lib.hid hr
          clear hr hL
          go_wp2_with fail
          go_ret; exact ⟨congrArg (fun b : Bool => Ending.returned (Value.bool b)) (hR.out), b_alloc _ _⟩
    by_cases k4 : k = 4
    · subst k4
      clear HPL
      by_cases hL : F.len = 0
      · have hd : ¬ (0 : Int) < (F.len : Int) := by omega
        cases lb with
        | false =>
          have hr : false = RR := by rw [HRB.out, nodeB_4 _ (by decide), ← HLB.out]; simp
          have hR := Lib.hid hr
          clear hr hL HRB HNB HLB
          go_wp2_with (first | (go_at_call 51; refine (hNm.out _).mono ?_; rintro e w1 ⟨rfl, rfl⟩) | (go_at_call 50; refine (hLt.out _).mono ?_; rintro e w1 ⟨rfl, rfl⟩))
          go_ret; exact ⟨congrArg (fun b : Bool => Ending.returned (Value.bool b)) (hR.out), b_alloc _ _⟩
        | true =>
          by_cases o0 : o = 0
          · subst o0
            have hr : n.toList.isEmpty = RR := by rw [HRB.out, nodeB_4 _ (by decide), ← HLB.out, hL, isE]; simp
            have hR := Lib.hid hr
            clear hr hL HRB HNB HLB
            go_wp2_with (first | (go_at_call 51; refine (hNm.out _).mono ?_; rintro e w1 ⟨rfl, rfl⟩) | (go_at_call 50; refine (hLt.out _).mono ?_; rintro e w1 ⟨rfl, rfl⟩))
            go_ret
            refine ⟨congrArg (fun b : Bool => Ending.returned (Value.bool b)) (?_ : _ = RR), b_alloc _ _⟩
            rw [← hR.out]
          by_cases o1 : o = 1
          · subst o1
            have hr : n.toList.isEmpty = RR := by rw [HRB.out, nodeB_4 _ (by decide), ← HLB.out, hL, isE]; simp
            have hR := Lib.hid hr
            clear hr hL HRB HNB HLB
            go_wp2_with (first | (go_at_call 51; refine (hNm.out _).mono ?_; rintro e w1 ⟨rfl, rfl⟩) | (go_at_call 50; refine (hLt.out _).mono ?_; rintro e w1 ⟨rfl, rfl⟩))
            go_ret
            refine ⟨congrArg (fun b : Bool => Ending.returned (Value.bool b)) (?_ : _ = RR), b_alloc _ _⟩
            rw [← hR.out]
          by_cases o2 : o = 2
          · subst o2
            have hr : nb = RR := by rw [HRB.out, nodeB_4 _ (by decide), ← HLB.out, ← HNB.out, hL]; simp
            have hR := Lib.hid hr
            clear hr hL HRB HNB HLB
            go_wp2_with (first | (go_at_call 51; refine (hNm.out _).mono ?_; rintro e w1 ⟨rfl, rfl⟩) | (go_at_call 50; refine (hLt.out _).mono ?_; rintro e w1 ⟨rfl, rfl⟩))
            go_ret; exact ⟨congrArg (fun b : Bool => Ending.returned (Value.bool b)) (hR.out), b_alloc _ _⟩
          by_cases o3 : o = 3
          · subst o3
            have hr : nb = RR := by rw [HRB.out, nodeB_4 _ (by decide), ← HLB.out, ← HNB.out, hL]; simp
            have hR := Lib.hid hr
            clear hr hL HRB HNB HLB
            go_wp2_with (first | (go_at_call 51; refine (hNm.out _).mono ?_; rintro e w1 ⟨rfl, rfl⟩) | (go_at_call 50; refine (hLt.out _).mono ?_; rintro e w1 ⟨rfl, rfl⟩))
            go_ret; exact ⟨congrArg (fun b : Bool => Ending.returned (Value.bool b)) (hR.out), b_alloc _ _⟩
          have e0 : (o == 0) = false := by simp [o0]
          have e1 : (o == 1) = false := by simp [o1]
          have e2 : (o == 2) = false := by simp [o2]
          have e3 : (o == 3) = false := by simp [o3]
          have hr : false = RR := by rw [HRB.out, nodeB_4o _ (by decide) o0 o1 o2 o3]
          have hR := Lib.hid hr
          clear hr hL HRB HNB HLB
          go_wp2_with (first | (go_at_call 51; refine (hNm.out _).mono ?_; rintro e w1 ⟨rfl, rfl⟩) | (go_at_call 50; refine (hLt.out _).mono ?_; rintro e w1 ⟨rfl, rfl⟩))
          go_ret; exact ⟨congrArg (fun b : Bool => Ending.returned (Value.bool b)) (hR.out), b_alloc _ _⟩
      · have hd : (0 : Int) < (F.len : Int) := by omega
        have hr : false = RR := by rw [HRB.out, nodeB_4 _ (by decide)]; simp [hL]
        have hR := Lib.hid hr
        clear hr hL HRB HNB HLB
        go_wp2_with (first | (go_at_call 51; refine (hNm.out _).mono ?_; rintro e w1 ⟨rfl, rfl⟩) | (go_at_call 50; refine (hLt.out _).mono ?_; rintro e w1 ⟨rfl, rfl⟩))
        go_ret; exact ⟨congrArg (fun b : Bool => Ending.returned (Value.bool b)) (hR.out), b_alloc _ _⟩
    by_cases k5 : k = 5
    · subst k5
      clear HPL
      by_cases hL : F.len = 0
      · have hd : ¬ (0 : Int) < (F.len : Int) := by omega
        cases lb with
        | false =>
          have hr : false = RR := by rw [HRB.out, nodeB_4 _ (by decide), ← HLB.out]; simp
          have hR := Lib.hid hr
          clear hr hL HRB HNB HLB
          go_wp2_with (first | (go_at_call 51; refine (hNm.out _).mono ?_; rintro e w1 ⟨rfl, rfl⟩) | (go_at_call 50; refine (hLt.out _).mono ?_; rintro e w1 ⟨rfl, rfl⟩))
          go_ret; exact ⟨congrArg (fun b : Bool => Ending.returned (Value.bool b)) (hR.out), b_alloc _ _⟩
        | true =>
          by_cases o0 : o = 0
          · subst o0
            have hr : n.toList.isEmpty = RR := by rw [HRB.out, nodeB_4 _ (by decide), ← HLB.out, hL, isE]; simp
            have hR := Lib.hid hr
            clear hr hL HRB HNB HLB
            go_wp2_with (first | (go_at_call 51; refine (hNm.out _).mono ?_; rintro e w1 ⟨rfl, rfl⟩) | (go_at_call 50; refine (hLt.out _).mono ?_; rintro e w1 ⟨rfl, rfl⟩))
            go_ret
            refine ⟨congrArg (fun b : Bool => Ending.returned (Value.bool b)) (?_ : _ = RR), b_alloc _ _⟩
            rw [← hR.out]
          by_cases o1 : o = 1
          · subst o1
            have hr : n.toList.isEmpty = RR := by rw [HRB.out, nodeB_4 _ (by decide), ← HLB.out, hL, isE]; simp
            have hR := Lib.hid hr
            clear hr hL HRB HNB HLB
            go_wp2_with (first | (go_at_call 51; refine (hNm.out _).mono ?_; rintro e w1 ⟨rfl, rfl⟩) | (go_at_call 50; refine (hLt.out _).mono ?_; rintro e w1 ⟨rfl, rfl⟩))
            go_ret
            refine ⟨congrArg (fun b : Bool => Ending.returned (Value.bool b)) (?_ : _ = RR), b_alloc _ _⟩
            rw [← hR.out]
          by_cases o2 : o = 2
          · subst o2
            have hr : nb = RR := by rw [HRB.out, nodeB_4 _ (by decide), ← HLB.out, ← HNB.out, hL]; simp
            have hR := Lib.hid hr
            clear hr hL HRB HNB HLB
            go_wp2_with (first | (go_at_call 51; refine (hNm.out _).mono ?_; rintro e w1 ⟨rfl, rfl⟩) | (go_at_call 50; refine (hLt.out _).mono ?_; rintro e w1 ⟨rfl, rfl⟩))
            go_ret; exact ⟨congrArg (fun b : Bool => Ending.returned (Value.bool b)) (hR.out), b_alloc _ _⟩
          by_cases o3 : o = 3
          · subst o3
            have hr : nb = RR := by rw [HRB.out, nodeB_4 _ (by decide), ← HLB.out, ← HNB.out, hL]; simp
            have hR := Lib.hid hr
            clear hr hL HRB HNB HLB
            go_wp2_with (first | (go_at_call 51; refine (hNm.out _).mono ?_; rintro e w1 ⟨rfl, rfl⟩) | (go_at_call 50; refine (hLt.out _).mono ?_; rintro e w1 ⟨rfl, rfl⟩))
            go_ret; exact ⟨congrArg (fun b : Bool => Ending.returned (Value.bool b)) (hR.out), b_alloc _ _⟩
          have e0 : (o == 0) = false := by simp [o0]
          have e1 : (o == 1) = false := by simp [o1]
          have e2 : (o == 2) = false := by simp [o2]
          have e3 : (o == 3) = false := by simp [o3]
          have hr : false = RR := by rw [HRB.out, nodeB_4o _ (by decide) o0 o1 o2 o3]
          have hR := Lib.hid hr
          clear hr hL HRB HNB HLB
          go_wp2_with (first | (go_at_call 51; refine (hNm.out _).mono ?_; rintro e w1 ⟨rfl, rfl⟩) | (go_at_call 50; refine (hLt.out _).mono ?_; rintro e w1 ⟨rfl, rfl⟩))
          go_ret; exact ⟨congrArg (fun b : Bool => Ending.returned (Value.bool b)) (hR.out), b_alloc _ _⟩
      · have hd : (0 : Int) < (F.len : Int) := by omega
        have hr : false = RR := by rw [HRB.out, nodeB_4 _ (by decide)]; simp [hL]
        have hR := Lib.hid hr
        clear hr hL HRB HNB HLB
        go_wp2_with (first | (go_at_call 51; refine (hNm.out _).mono ?_; rintro e w1 ⟨rfl, rfl⟩) | (go_at_call 50; refine (hLt.out _).mono ?_; rintro e w1 ⟨rfl, rfl⟩))
        go_ret; exact ⟨congrArg (fun b : Bool => Ending.returned (Value.bool b)) (hR.out), b_alloc _ _⟩
    by_cases k6 : k = 6
    · subst k6
      clear HPL
      by_cases hL : F.len = 0
      · have hd : ¬ (0 : Int) < (F.len : Int) := by omega
        cases lb with
        | false =>
          have hr : false = RR := by rw [HRB.out, nodeB_4 _ (by decide), ← HLB.out]; simp
          have hR := Lib.hid hr
          clear hr hL HRB HNB HLB
          go_wp2_with (first | (go_at_call 51; refine (hNm.out _).mono ?_; rintro e w1 ⟨rfl, rfl⟩) | (go_at_call 50; refine (hLt.out _).mono ?_; rintro e w1 ⟨rfl, rfl⟩))
          go_ret; exact ⟨congrArg (fun b : Bool => Ending.returned (Value.bool b)) (hR.out), b_alloc _ _⟩
        | true =>
          by_cases o0 : o = 0
          · subst o0
            have hr : n.toList.isEmpty = RR := by rw [HRB.out, nodeB_4 _ (by decide), ← HLB.out, hL, isE]; simp
            have hR := Lib.hid hr
            clear hr hL HRB HNB HLB
            go_wp2_with (first | (go_at_call 51; refine (hNm.out _).mono ?_; rintro e w1 ⟨rfl, rfl⟩) | (go_at_call 50; refine (hLt.out _).mono ?_; rintro e w1 ⟨rfl, rfl⟩))
            go_ret
            refine ⟨congrArg (fun b : Bool => Ending.returned (Value.bool b)) (?_ : _ = RR), b_alloc _ _⟩
            rw [← hR.out]
          by_cases o1 : o = 1
          · subst o1
            have hr : n.toList.isEmpty = RR := by rw [HRB.out, nodeB_4 _ (by decide), ← HLB.out, hL, isE]; simp
            have hR := Lib.hid hr
            clear hr hL HRB HNB HLB
            go_wp2_with (first | (go_at_call 51; refine (hNm.out _).mono ?_; rintro e w1 ⟨rfl, rfl⟩) | (go_at_call 50; refine (hLt.out _).mono ?_; rintro e w1 ⟨rfl, rfl⟩))
            go_ret
            refine ⟨congrArg (fun b : Bool => Ending.returned (Value.bool b)) (?_ : _ = RR), b_alloc _ _⟩
            rw [← hR.out]
          by_cases o2 : o = 2
          · subst o2
            have hr : nb = RR := by rw [HRB.out, nodeB_4 _ (by decide), ← HLB.out, ← HNB.out, hL]; simp
            have hR := Lib.hid hr
            clear hr hL HRB HNB HLB
            go_wp2_with (first | (go_at_call 51; refine (hNm.out _).mono ?_; rintro e w1 ⟨rfl, rfl⟩) | (go_at_call 50; refine (hLt.out _).mono ?_; rintro e w1 ⟨rfl, rfl⟩))
            go_ret; exact ⟨congrArg (fun b : Bool => Ending.returned (Value.bool b)) (hR.out), b_alloc _ _⟩
          by_cases o3 : o = 3
          · subst o3
            have hr : nb = RR := by rw [HRB.out, nodeB_4 _ (by decide), ← HLB.out, ← HNB.out, hL]; simp
            have hR := Lib.hid hr
            clear hr hL HRB HNB HLB
            go_wp2_with (first | (go_at_call 51; refine (hNm.out _).mono ?_; rintro e w1 ⟨rfl, rfl⟩) | (go_at_call 50; refine (hLt.out _).mono ?_; rintro e w1 ⟨rfl, rfl⟩))
            go_ret; exact ⟨congrArg (fun b : Bool => Ending.returned (Value.bool b)) (hR.out), b_alloc _ _⟩
          have e0 : (o == 0) = false := by simp [o0]
          have e1 : (o == 1) = false := by simp [o1]
          have e2 : (o == 2) = false := by simp [o2]
          have e3 : (o == 3) = false := by simp [o3]
          have hr : false = RR := by rw [HRB.out, nodeB_4o _ (by decide) o0 o1 o2 o3]
          have hR := Lib.hid hr
          clear hr hL HRB HNB HLB
          go_wp2_with (first | (go_at_call 51; refine (hNm.out _).mono ?_; rintro e w1 ⟨rfl, rfl⟩) | (go_at_call 50; refine (hLt.out _).mono ?_; rintro e w1 ⟨rfl, rfl⟩))
          go_ret; exact ⟨congrArg (fun b : Bool => Ending.returned (Value.bool b)) (hR.out), b_alloc _ _⟩
      · have hd : (0 : Int) < (F.len : Int) := by omega
        have hr : false = RR := by rw [HRB.out, nodeB_4 _ (by decide)]; simp [hL]
        have hR := Lib.hid hr
        clear hr hL HRB HNB HLB
        go_wp2_with (first | (go_at_call 51; refine (hNm.out _).mono ?_; rintro e w1 ⟨rfl, rfl⟩) | (go_at_call 50; refine (hLt.out _).mono ?_; rintro e w1 ⟨rfl, rfl⟩))
        go_ret; exact ⟨congrArg (fun b : Bool => Ending.returned (Value.bool b)) (hR.out), b_alloc _ _⟩
    clear HPL HNB HLB
    have hr : false = RR := by rw [HRB.out]; unfold nodeB; simp [k0, k1, k2, k3, k4, k5, k6]
    have hR := Lib.hid hr
    clear hr HRB
    go_wp2_with fail
    go_ret; exact ⟨congrArg (fun b : Bool => Ending.returned (Value.bool b)) (hR.out), b_alloc _ _⟩
  case rest =>
  obtain ⟨HM, rfl⟩ := hcut
  have HMM := Lib.hid HM.out
  have hc4 := HC4.out
  clear HM HRR hLt hNm HPL
  generalize hw0 : w.alloc (.cells #[.int .i64 k, .int .i64 o, .string n, .string t, .slice ad F.len c] 24) = w0 at *
  go_upto_region 22 with fail
  have hGO := HGO.out
  go_loopg [4] F.len (fun gg s4 wr => ∃ (kk : Nat) (G : Fo), kk + G.len = F.len ∧ gg = G.len ∧ s4 = .int .i64 kk ∧ Aside (Below w0.heap.size w0 wr) ∧ Aside (Row w G b (f + 5 * kk)) ∧ Aside (G.All FormAt) ∧ Aside (G.may = F.may))
  case atStart => exact ⟨0, F, by omega, rfl, rfl, Below.refl _ _, HR0.out, HP0.out, rfl⟩
  case round =>
    obtain ⟨kk, G, hkk, rfl, rfl, BW, HR, HP, HA⟩ := hrel
    have c4 := (BW.out.cell (p := ⟨w.heap.size, 4, none⟩) hz).trans hc4
    have hBW0 : Below w.heap.size w wr := hGO.trans (BW.out.mono hGO.size)
    clear hc4 hGO
    cases G with
    | nil =>
      have hltz : ¬ (kk : Int) < (F.len : Int) := by simp only [Fo.len] at hkk; omega
      have HB := Lib.hid hBW0
      clear hBW0
      go_wp2_with fail
      go_ret
      refine ⟨?_, HB.out⟩
      rw [HMM.out, ← HA.out]; rfl
    | cons k1 o1 n1 t1 kids nx =>
      have hln : (Fo.cons k1 o1 n1 t1 kids nx).len = nx.len + 1 := rfl
      have hltz : (kk : Int) < (F.len : Int) := by omega
      obtain ⟨a1, c1, h0, h1, h2, h3, h4, r1, r2, hsl, _⟩ := (HR.out.below hBW0 (Nat.le_refl _)).kids
      obtain ⟨_, _, _, _, _, _, _, _, _, _, hrn⟩ := HR.out.kids
      obtain rfl : ad = some ⟨b, f, none⟩ := by rcases had with h | ⟨_, h⟩; exact h; omega
      rw [show f + 5 * kk = f + kk * 5 by omega] at h0 h1 h2 h3 h4
      obtain ⟨hp1, hpn⟩ := HP.out
      have HC : Hid (∀ w1, Below wr.heap.size wr w1 → Calls Tryz.prog 29 #[pv k1 o1 n1 t1 a1 kids.len c1] w1 (RetB (mayP k1 o1 n1 t1 kids) w1)) := Lib.hid fun w1 hb => hp1 k1 o1 n1 t1 a1 c1 w1 r1 r2 (hsl.grown hb)
      have hPn : Aside _ := hpn
      have hRn : Aside _ := hrn
      have HB := Lib.hid hBW0
      have HA2 := Lib.hid HA.out
      clear hpn hrn hsl hp1 HP HR hBW0 HA
      cases hv : mayP k1 o1 n1 t1 kids with
      | false =>
        rw [hv] at HC
        have HV := Lib.hid hv
        clear hv
        go_wp2_with (go_at_call 29; refine (HC.out _ (Below.refl _ _)).mono ?_; rintro e w1 ⟨rfl, hb⟩)
        go_ret
        refine ⟨?_, b_trans HB.out hb⟩
        rw [HMM.out, ← HA2.out]
        show _ = Ending.returned (.bool (mayP k1 o1 n1 t1 kids && nx.may))
        rw [HV.out]; rfl
      | true =>
        rw [hv] at HC
        have HV := Lib.hid hv
        clear hv
        go_wp2_with (go_at_call 29; refine (HC.out _ (Below.refl _ _)).mono ?_; rintro e w1 ⟨rfl, hb⟩)
        go_roundg nx.len
        case measure => omega
        case rel =>
          refine ⟨kk + 1, nx, by omega, rfl, by go_num, b_trans BW.out hb, ?_, hPn.out, (show nx.may = F.may from ?_)⟩
          · rw [show f + 5 * (kk + 1) = f + 5 * kk + 5 by omega]; exact hRn.out
          · rw [← HA2.out]
            show _ = (mayP k1 o1 n1 t1 kids && nx.may)
            rw [HV.out]; rfl
theorem form_any (F : Fo) : FormAt F := Fo.rec_all form_step F
end Go.Proofs.YthpagppipifgeaaGreatDoor
