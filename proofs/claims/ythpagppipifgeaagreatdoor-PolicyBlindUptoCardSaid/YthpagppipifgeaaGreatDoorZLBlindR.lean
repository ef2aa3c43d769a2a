/- ostiarylaw20.has, names: the walks. -/
import Derived.Test.YthpagppipifgeaaGreatDoorZLFacts
import Derived.Test.YthpagppipifgeaaGreatDoorZLSize
namespace Go.Proofs.YthpagppipifgeaaGreatDoor
open Go.RowKit

def hasL (l : List Fact) (n : ByteArray) : Bool := l.any fun f => decide (f.1.toList = n.toList)
set_option maxRecDepth 100000 in
theorem hasl_any (l : List Fact) (ad : Option Addr) (c : Nat) (n : ByteArray) (w : World) (hs : SlX w l ad c) :
    Calls Tryz.prog 23 #[.slice ad l.length c, .string n] w fun e w' => e = .returned (.bool (hasL l n)) ∧ w' = w := by
  obtain ⟨hle, hcm, b, f, had, hrow⟩ := hs
  have hMX := MX_eq
  go_enter Tryz.func23, Tryz.ntmps23
  go_upto_region 2 with fail
  go_loopg [5] l.length (fun gg s5 wr => ∃ (kk : Nat) (r : List Fact), kk + r.length = l.length ∧ gg = r.length ∧ s5 = .int .i64 kk ∧ wr = w ∧ Aside (RowX w r b (f + 2 * kk)) ∧ Aside (hasL r n = hasL l n))
  case atStart => exact ⟨0, l, by omega, rfl, rfl, rfl, hrow, rfl⟩
  case round =>
    obtain ⟨kk, r, hkk, rfl, rfl, rfl, HR, HA⟩ := hrel
    cases r with
    | nil =>
      have hltz : ¬ (kk : Int) < (l.length : Int) := by simp only [List.length_nil] at hkk; omega
      go_wp2_with fail
      go_ret
      rw [← HA.out]
      exact ⟨rfl, rfl⟩
    | cons y r =>
      have hln : (y :: r).length = r.length + 1 := rfl
      have hltz : (kk : Int) < (l.length : Int) := by omega
      obtain ⟨⟨a1, c1, h0, _, _⟩, hrn⟩ := HR.out
      obtain rfl : ad = some ⟨b, f, none⟩ := by rcases had with h | ⟨_, h⟩; exact h; omega
      rw [show f + 2 * kk = f + kk * 2 by omega] at h0
      have hRN : Aside _ := hrn
      clear HR hrn
      by_cases he : y.1.toList = n.toList
      · have heq : (y.1.toList == n.toList) = true := by simp [he]
        go_wp2_with fail
        go_ret
        rw [← HA.out]
        exact ⟨by simp [hasL, he], rfl⟩
      · have heq : (y.1.toList == n.toList) = false := by simp [he]
        go_wp2_with fail
        go_roundg r.length
        case measure => omega
        case rel =>
          refine ⟨kk + 1, r, by omega, rfl, by go_num, rfl, ?_, (show hasL r n = hasL l n from by rw [← HA.out]; simp [hasL, he])⟩
          rw [show f + 2 * (kk + 1) = f + 2 * kk + 2 by omega]; exact hRN.out
def namesN (q : Int) (nm : ByteArray) (k o : Int) (n : ByteArray) : Bool := decide (o = q) && decide (n.toList = nm.toList) && decide (4 ≤ k)
/-- Does one of these look at a fact of a name? -/
def Fo.names (q : Int) (nm : ByteArray) : Fo → Bool
  | .nil => false
  | .cons k o n _ kids nx => (namesN q nm k o n || kids.names q nm) || nx.names q nm
def namesP (q : Int) (nm : ByteArray) (k o : Int) (n : ByteArray) (F : Fo) : Bool := namesN q nm k o n || F.names q nm
def NamesAt (q : Int) (nm : ByteArray) (F : Fo) : Prop := ∀ (k o : Int) (n t : ByteArray) (ad : Option Addr) (c : Nat) (w : World), SlF w F ad c →
  Calls Tryz.prog 22 #[pv k o n t ad F.len c, .int .i64 q, .string nm] w (RetB (namesP q nm k o n F) w)
set_option maxRecDepth 100000 in
set_option maxHeartbeats 2000000 in
theorem names_step (q : Int) (nm : ByteArray) (F : Fo) (h : F.All (NamesAt q nm)) : NamesAt q nm F := by
  intro k o n t ad c w hs
  have hMX := MX_eq
  obtain ⟨hle, hcm, b, f, had, hrow⟩ := hs
  obtain ⟨w0, hw0⟩ : ∃ w0, w0 = w.alloc (.cells #[.int .i64 k, .int .i64 o, .string n, .string t, .slice ad F.len c] 24) := ⟨_, rfl⟩
  have hgo : Below w.heap.size w w0 := by rw [hw0]; exact b_alloc w _
  have hz : w.heap.size < w0.heap.size := by rw [hw0]; simp
  have hc4 : w0.cell? ⟨w.heap.size, 4, none⟩ = some (.slice ad F.len c) := by rw [hw0]; simp
  obtain ⟨RR, hRR⟩ : ∃ RR, RR = namesP q nm k o n F := ⟨_, rfl⟩
  rw [← hRR]
  have HRR := Lib.hid hRR
  clear hRR
  go_enter Tryz.func22, Tryz.ntmps22
  go_upto_region 1 with fail
  go_cut [22] (fun s22 wx => s22 = .bool (namesN q nm k o n) ∧ wx = w.alloc (.cells #[.int .i64 k, .int .i64 o, .string n, .string t, .slice ad F.len c] 24))
  case first =>
    clear h hrow had
    by_cases ho : o = q
    · subst ho
      by_cases hn : n.toList = nm.toList
      · have heq : (n.toList == nm.toList) = true := by simp [hn]
        by_cases hk : 4 ≤ k
        · go_wp2_with fail
          all_goals (go_meet; refine ⟨?_, rfl⟩; simp [namesN, hn, hk])
        · go_wp2_with fail
          all_goals (go_meet; refine ⟨?_, rfl⟩; simp [namesN, hn, hk])
      · have heq : (n.toList == nm.toList) = false := by simp [hn]
        go_wp2_with fail
        all_goals (go_meet; refine ⟨?_, rfl⟩; simp [namesN, hn])
    · have heo : (o == q) = false := by simp [ho]
      go_wp2_with fail
      all_goals (go_meet; refine ⟨?_, rfl⟩; simp [namesN, ho])
  case rest =>
  obtain ⟨rfl, rfl⟩ := hcut
  cases hN : namesN q nm k o n with
  | true =>
    go_wp2_with fail
    go_ret
    exact ⟨by rw [HRR.out]; unfold namesP; rw [hN]; rfl, b_alloc w _⟩
  | false =>
    have hP : RR = F.names q nm := by rw [HRR.out]; unfold namesP; rw [hN]; rfl
    subst hP
    clear hN HRR
    go_upto_region 4 with fail
    rw [← hw0]
    clear hw0
    go_loopg [7] F.len (fun gg s7 wr => ∃ (kk : Nat) (G : Fo), kk + G.len = F.len ∧ gg = G.len ∧ s7 = .int .i64 kk ∧ Aside (Below w0.heap.size w0 wr) ∧ Aside (Row w G b (f + 5 * kk)) ∧ Aside (G.All (NamesAt q nm)) ∧ Aside (G.names q nm = F.names q nm))
    case atStart => exact ⟨0, F, by omega, rfl, rfl, Below.refl _ _, hrow, h, rfl⟩
    case round =>
      obtain ⟨kk, G, hkk, rfl, rfl, BW, HR, HP, HA⟩ := hrel
      have c4 := (BW.out.cell (p := ⟨w.heap.size, 4, none⟩) hz).trans hc4
      have hBW0 : Below w.heap.size w wr := hgo.trans (BW.out.mono hgo.size)
      cases G with
      | nil =>
        have hltz : ¬ (kk : Int) < (F.len : Int) := by simp only [Fo.len] at hkk; omega
        have HB := Lib.hid hBW0
        clear hBW0
        go_wp2_with fail
        go_ret
        rw [← HA.out]
        exact ⟨rfl, HB.out⟩
      | cons k1 o1 n1 t1 kids nx =>
        have hln : (Fo.cons k1 o1 n1 t1 kids nx).len = nx.len + 1 := rfl
        have hltz : (kk : Int) < (F.len : Int) := by omega
        obtain ⟨a1, c1, h0, h1, h2, h3, h4, r1, r2, hsl, _⟩ := (HR.out.below hBW0 (Nat.le_refl _)).kids
        obtain ⟨_, _, _, _, _, _, _, _, _, _, hrn⟩ := HR.out.kids
        obtain rfl : ad = some ⟨b, f, none⟩ := by rcases had with h | ⟨_, h⟩; exact h; omega
        rw [show f + 5 * kk = f + kk * 5 by omega] at h0 h1 h2 h3 h4
        obtain ⟨hp1, hpn⟩ := HP.out
        have HC : Hid (∀ w1, Below wr.heap.size wr w1 → Calls Tryz.prog 22 #[pv k1 o1 n1 t1 a1 kids.len c1, .int .i64 q, .string nm] w1 (RetB (namesP q nm k1 o1 n1 kids) w1)) := Lib.hid fun w1 hb => hp1 k1 o1 n1 t1 a1 c1 w1 (hsl.grown hb)
        have hPn : Aside _ := hpn
        have hRn : Aside _ := hrn
        have HB := Lib.hid hBW0
        have HA2 := Lib.hid HA.out
        clear hpn hrn hsl hp1 HP HR hBW0 HA
        cases hv : namesP q nm k1 o1 n1 kids with
        | true =>
          rw [hv] at HC
          have HV := Lib.hid hv
          clear hv
          go_wp2_with (go_at_call 22; refine (HC.out _ (Below.refl _ _)).mono ?_; rintro e w1 ⟨rfl, hb⟩)
          go_ret
          refine ⟨?_, b_trans HB.out hb⟩
          rw [← HA2.out]
          show _ = Ending.returned (.bool (namesP q nm k1 o1 n1 kids || nx.names q nm))
          rw [HV.out]; rfl
        | false =>
          rw [hv] at HC
          have HV := Lib.hid hv
          clear hv
          go_wp2_with (go_at_call 22; refine (HC.out _ (Below.refl _ _)).mono ?_; rintro e w1 ⟨rfl, hb⟩)
          go_roundg nx.len
          case measure => omega
          case rel =>
            refine ⟨kk + 1, nx, by omega, rfl, by go_num, b_trans BW.out hb, ?_, hPn.out, ?_⟩
            · rw [show f + 5 * (kk + 1) = f + 5 * kk + 5 by omega]; exact hRn.out
            · rw [← HA2.out]
              show _ = (namesP q nm k1 o1 n1 kids || nx.names q nm)
              rw [HV.out]; rfl
theorem names_any (q : Int) (nm : ByteArray) (F : Fo) : NamesAt q nm F := Fo.rec_all (names_step q nm) F
end Go.Proofs.YthpagppipifgeaaGreatDoor
