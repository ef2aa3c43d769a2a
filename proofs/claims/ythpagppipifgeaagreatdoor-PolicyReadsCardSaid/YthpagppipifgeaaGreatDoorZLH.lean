/- LRefQ LRefT LRefT2, in one text. -/
import Derived.Test.YthpagppipifgeaaGreatDoorZLText
import Derived.Test.YthpagppipifgeaaGreatDoorZLT
/- ostiaryref20.quoted, inner: the walks. -/
namespace Go.Proofs.YthpagppipifgeaaGreatDoor
open Go.RowKit

theorem quote_take {l : List UInt8} {i : Nat} {x : UInt8} (hx : l[i]? = some x) : quoteL (l.take (i + 1)) = quoteL (l.take i) ++ quoteC x := by
  obtain ⟨hi, rfl⟩ := List.getElem?_eq_some_iff.1 hx
  unfold quoteL
  rw [List.take_succ_eq_append_getElem hi, List.flatMap_append]
  simp
theorem cut_one {l : List UInt8} {i : Nat} {x : UInt8} (hx : l[i]? = some x) : (bs l).extract i (i + 1) = bs [x] := by
  obtain ⟨hi, rfl⟩ := List.getElem?_eq_some_iff.1 hx
  rw [bs_cut, List.take_succ_eq_append_getElem hi, List.drop_append]
  simp [List.drop_eq_nil_of_le, Nat.min_eq_left (Nat.le_of_lt hi)]
set_option maxRecDepth 100000 in
set_option maxHeartbeats 1000000 in
theorem quoted_any (l : List UInt8) (w : World) (hl : l.length ≤ 64) : Calls Tryz.prog 44 #[.string (bs l)] w fun e w' => e = .returned (.string (bs ([34] ++ quoteL l ++ [34]))) ∧ w' = w := by
  have hsz := bs_size l
  obtain ⟨RR, hRR⟩ : ∃ RR, RR = bs ([34] ++ quoteL l ++ [34]) := ⟨_, rfl⟩
  rw [← hRR]
  have HN := Lib.hid hRR
  clear hRR
  go_enter Tryz.func44, Tryz.ntmps44
  go_upto_region 3 with fail
  go_loopg [3, 4] l.length (fun gg s3 s4 wr => ∃ (i : Nat) (q : List UInt8), i ≤ l.length ∧ gg = l.length - i ∧ s3 = .string (bs q) ∧ s4 = .int .i64 i ∧ wr = w ∧ Aside (q = [34] ++ quoteL (l.take i)))
  case atStart => exact ⟨0, [34], Nat.zero_le _, rfl, rfl, rfl, rfl, rfl⟩
  case round =>
    obtain ⟨i, q, hil, rfl, rfl, rfl, rfl, HA⟩ := hrel
    have hql : q.length ≤ 129 := by
      have h1 := quote_le (l.take i)
      have h2 : (l.take i).length ≤ 64 := by simp; omega
      rw [HA.out, List.length_append]
      simp only [List.length_cons, List.length_nil]
      omega
    have hqz := bs_size q
    by_cases hlt : i < l.length
    · have hltz : (i : Int) < (l.length : Int) := by omega
      obtain ⟨x, hx⟩ : ∃ x, l[i]? = some x := ⟨l[i], by simp [hlt]⟩
      have hgi := bs_get l i x hx
      have hcut := cut_one hx
      have hqt := quote_take hx
      have hx256 : x.toNat < 256 := UInt8.toNat_lt x
      have hz1 : (bs [x]).size = 1 := rfl
      have n1 : ¬ 9223372036854775807 < (bs q).size + 1 := by omega
      have n2 : ¬ 9223372036854775807 < (bs q).size + 1 + 1 := by omega
      have hne : (({ data := #[92] } : ByteArray)).size = 1 := rfl
      have hsa : (bs q ++ ({ data := #[92] } : ByteArray)).size = (bs q).size + 1 := by rw [ByteArray.size_append]; rfl
      have HQ := Lib.hid hqt
      have HCAT : Hid (bs q ++ bs [x] = bs (q ++ [x])) := Lib.hid (bs_app2 q [x])
      have HCAT2 : Hid ((bs q ++ ({ data := #[92] } : ByteArray)) ++ bs [x] = bs (q ++ [92, x])) := Lib.hid (by rw [show ({ data := #[92] } : ByteArray) = bs [92] from rfl, bs_app2, bs_app2]; simp)
      clear hqt hx
      by_cases h34 : x.toNat = 34
      · have z : ((x.toNat : Int) == 34) = true := by rw [h34]; rfl
        have hqc : quoteC x = [92, x] := by
          have : x = 34 := UInt8.toNat_inj.1 (by simpa using h34)
          subst this; rfl
        have HQC := Lib.hid hqc
        clear hqc h34
        go_wp2_with fail
        go_roundg (l.length - (i + 1))
        case measure => omega
        case rel => exact ⟨i + 1, q ++ [92, x], by omega, rfl, by rw [← HCAT2.out], by go_num, rfl, (show q ++ [92, x] = [34] ++ quoteL (l.take (i + 1)) by rw [HQ.out, HQC.out, HA.out]; simp)⟩
      · have z : ((x.toNat : Int) == 34) = false := by simp; omega
        by_cases h92 : x.toNat = 92
        · have z2 : ((x.toNat : Int) == 92) = true := by rw [h92]; rfl
          have hqc : quoteC x = [92, x] := by
            have : x = 92 := UInt8.toNat_inj.1 (by simpa using h92)
            subst this; rfl
          have HQC := Lib.hid hqc
          clear hqc h92 h34
          go_wp2_with fail
          go_roundg (l.length - (i + 1))
          case measure => omega
          case rel => exact ⟨i + 1, q ++ [92, x], by omega, rfl, by rw [← HCAT2.out], by go_num, rfl, (show q ++ [92, x] = [34] ++ quoteL (l.take (i + 1)) by rw [HQ.out, HQC.out, HA.out]; simp)⟩
        · have z2 : ((x.toNat : Int) == 92) = false := by simp; omega
          have hqc : quoteC x = [x] := by
            unfold quoteC
            rw [if_neg (fun h => h34 (by rw [h]; rfl)), if_neg (fun h => h92 (by rw [h]; rfl))]
          have HQC := Lib.hid hqc
          clear hqc h92 h34
          go_wp2_with fail
          go_roundg (l.length - (i + 1))
          case measure => omega
          case rel => exact ⟨i + 1, q ++ [x], by omega, rfl, by rw [← HCAT.out], by go_num, rfl, (show q ++ [x] = [34] ++ quoteL (l.take (i + 1)) by rw [HQ.out, HQC.out, HA.out]; simp)⟩
    · have hltz : ¬ (i : Int) < (l.length : Int) := by omega
      have n1 : ¬ 9223372036854775807 < (bs q).size + 1 := by omega
      have HE : Hid (bs q ++ ({ data := #[34] } : ByteArray) = RR) := Lib.hid (by
        rw [HN.out, show ({ data := #[34] } : ByteArray) = bs [34] from rfl, bs_app2, HA.out, List.take_of_length_le (by omega)])
      go_wp2_with fail
      go_ret
      exact ⟨congrArg (fun x => Ending.returned (.string x)) HE.out, rfl⟩

def TextRAt (F : Fo) : Prop := ∀ (k o : Int) (n t : ByteArray) (ad : Option Addr) (c : Nat) (w : World), mayP k o n t F = true → F.cnt ≤ 1000000 → SlF w F ad c →
  Calls Tryz.prog 26 #[pv k o n t ad F.len c] w (RetS (bs (textP k o n t F)) w)
set_option maxRecDepth 100000 in
theorem inner_any (pk : Int) (F : Fo) (h : TextRAt F) (k o : Int) (n t : ByteArray) (ad : Option Addr) (c : Nat) (w : World) (hm : mayP k o n t F = true) (hc : F.cnt ≤ 1000000) (hs : SlF w F ad c) :
    Calls Tryz.prog 43 #[pv k o n t ad F.len c, .int .i64 pk] w (RetS (bs (wrapT pk k (textP k o n t F))) w) := by
  have hl := textP_le hm hc
  have H : Hid (∀ w1, Below w.heap.size w w1 → Calls Tryz.prog 26 #[pv k o n t ad F.len c] w1 (RetS (bs (textP k o n t F)) w1)) := Lib.hid fun w1 hb => h k o n t ad c w1 hm hc (hs.grown hb)
  clear h hm hc hs
  generalize textP k o n t F = T at *
  have hsz := bs_size T
  have z1 : ¬ 9223372036854775807 < 1 + (bs T).size := by omega
  have z2 : ¬ 9223372036854775807 < 1 + (bs T).size + 1 := by omega
  have z3 : (({ data := #[40] } : ByteArray) ++ bs T).size = 1 + (bs T).size := by rw [ByteArray.size_append]; rfl
  have hfin : (({ data := #[40] } : ByteArray) ++ bs T) ++ { data := #[41] } = bs ([40] ++ T ++ [41]) := by
    rw [show ({ data := #[40] } : ByteArray) = bs [40] from rfl, show ({ data := #[41] } : ByteArray) = bs [41] from rfl, bs_app2, bs_app2]
  have HF := Lib.hid hfin
  clear hfin
  unfold wrapT
  by_cases k3 : k = 3
  · subst k3
    rw [if_pos (Or.inl rfl)]
    go_enter Tryz.func43, Tryz.ntmps43
    go_wp2_with (go_at_call 26; refine (H.out _ (b_alloc _ _)).mono ?_; rintro e w1 ⟨rfl, hb⟩)
    go_ret
    exact ⟨congrArg (fun x => Ending.returned (.string x)) HF.out, b_call hb⟩
  · by_cases k2 : k = 2
    · subst k2
      by_cases p3 : pk = 3
      · subst p3
        rw [if_neg (by simp)]
        go_enter Tryz.func43, Tryz.ntmps43
        go_wp2_with (go_at_call 26; refine (H.out _ (b_alloc _ _)).mono ?_; rintro e w1 ⟨rfl, hb⟩)
        go_ret
        exact ⟨rfl, b_call hb⟩
      · rw [if_pos (Or.inr ⟨rfl, p3⟩)]
        have hpz : (pk != 3) = true := by simp [p3]
        go_enter Tryz.func43, Tryz.ntmps43
        go_wp2_with (go_at_call 26; refine (H.out _ (b_alloc _ _)).mono ?_; rintro e w1 ⟨rfl, hb⟩)
        go_ret
        exact ⟨congrArg (fun x => Ending.returned (.string x)) HF.out, b_call hb⟩
    · rw [if_neg (by rintro (h | ⟨h, _⟩); exact k3 h; exact k2 h)]
      have q3 : (k == 3) = false := by simp [k3]
      have q2 : (k == 2) = false := by simp [k2]
      go_enter Tryz.func43, Tryz.ntmps43
      go_wp2_with (go_at_call 26; refine (H.out _ (b_alloc _ _)).mono ?_; rintro e w1 ⟨rfl, hb⟩)
      go_ret
      exact ⟨rfl, b_call hb⟩
end Go.Proofs.YthpagppipifgeaaGreatDoor
/- ostiaryref20.text: the walk. -/
namespace Go.Proofs.YthpagppipifgeaaGreatDoor
open Go.RowKit

/-- What is behind the first one of texts that are joined. -/
def joinT (sep : List UInt8) (l : List (List UInt8)) : List UInt8 := l.flatMap fun x => sep ++ x
theorem join_rest (x : List UInt8) (r : List (List UInt8)) (sep : List UInt8) : Lib.join (x :: r) sep = x ++ joinT sep r := by
  induction r generalizing x with
  | nil => simp [Lib.join, joinT]
  | cons y r' ih =>
    have : Lib.join (x :: y :: r') sep = x ++ sep ++ Lib.join (y :: r') sep := by simp [Lib.join]
    rw [this, ih y]
    simp [joinT]
def sepOf (k : Int) : List UInt8 := if k = 2 then sAndB else sOrB
theorem textP_two {k : Int} (hk : k = 2 ∨ k = 3) (o : Int) (n t : ByteArray) (F : Fo) : textP k o n t F = Lib.join (F.txs k) (sepOf k) := by
  rcases hk with rfl | rfl
  · unfold textP textN; rfl
  · unfold textP textN; rfl
theorem two_len {k : Int} (hk : k = 2 ∨ k = 3) {o : Int} {n t : ByteArray} {F : Fo} (h : mayP k o n t F = true) : 2 ≤ F.len ∧ F.may = true := by
  unfold mayP nodeB at h
  rcases hk with rfl | rfl
  · simp at h; exact ⟨h.1.2, h.2⟩
  · simp at h; exact ⟨h.1.2, h.2⟩
theorem one_len {o : Int} {n t : ByteArray} {F : Fo} (h : mayP 1 o n t F = true) : F.len = 1 ∧ F.may = true := by
  unfold mayP nodeB at h
  simp at h
  exact ⟨h.1.2, h.2⟩
theorem test_len {k o : Int} {n t : ByteArray} {F : Fo} (k0 : ¬ k = 0) (k1 : ¬ k = 1) (k2 : ¬ k = 2) (k3 : ¬ k = 3) (h : mayP k o n t F = true) : (k = 4 ∨ k = 5 ∨ k = 6) ∧ 0 ≤ o ∧ o < 4 ∧ n.size ≤ 32 ∧ t.size ≤ 64 ∧ F.len = 0 ∧ (¬ (o = 2 ∨ o = 3) → n.toList = []) := by
  have hs := node_sizes h
  unfold mayP nodeB at h
  rw [if_neg k0, if_neg k1, if_neg (by omega)] at h
  split at h
  · next h4 =>
    simp only [Bool.and_eq_true, decide_eq_true_eq] at h
    obtain ⟨⟨⟨⟨hl, h0⟩, h1⟩, hn⟩, _⟩ := h
    refine ⟨h4, h0, h1, (by omega), (by omega), hl, fun hno => ?_⟩
    rw [if_neg hno] at hn
    exact of_decide_eq_true hn
  · cases h
set_option maxRecDepth 100000 in
theorem textR_40 (n t : ByteArray) (F : Fo) (ad : Option Addr) (c : Nat) (w : World) (P : List UInt8) (hnn : n.data.toList = []) (hP : P.length ≤ 130) (HQ : Hid (∀ w1, Calls Tryz.prog 44 #[.string t] w1 fun e w' => e = .returned (.string (bs P)) ∧ w' = w1)) :
    Calls Tryz.prog 26 #[pv 4 0 n t ad F.len c] w (RetS (bs (looksL 0 n.data.toList ++ [32] ++ opL 4 ++ [32] ++ P)) w) := by
  have hPz := bs_size P
  have s2 : (({ data := #[109, 101, 116, 104, 111, 100] } : ByteArray) ++ ({ data := #[32, 105, 115, 32] } : ByteArray)).size = 10 := by rw [ByteArray.size_append]; rfl
  have n3 : ¬ 9223372036854775807 < 10 + (bs P).size := by omega
  have HF : Hid ((({ data := #[109, 101, 116, 104, 111, 100] } : ByteArray) ++ ({ data := #[32, 105, 115, 32] } : ByteArray)) ++ bs P = bs (looksL 0 n.data.toList ++ [32] ++ opL 4 ++ [32] ++ P)) := Lib.hid (by
    rw [show ({ data := #[109, 101, 116, 104, 111, 100] } : ByteArray) = bs [109, 101, 116, 104, 111, 100] from rfl, show ({ data := #[32, 105, 115, 32] } : ByteArray) = bs [32, 105, 115, 32] from rfl, bs_app2, bs_app2, hnn]
    simp [looksL, opL, sMethod, sIs])
  go_enter Tryz.func26, Tryz.ntmps26
  go_wp2_with (go_at_call 44; refine (HQ.out _).mono ?_; rintro e w1 ⟨rfl, rfl⟩)
  go_ret
  exact ⟨congrArg (fun x => Ending.returned (.string x)) HF.out, b_alloc _ _⟩
set_option maxRecDepth 100000 in
theorem textR_41 (n t : ByteArray) (F : Fo) (ad : Option Addr) (c : Nat) (w : World) (P : List UInt8) (hnn : n.data.toList = []) (hP : P.length ≤ 130) (HQ : Hid (∀ w1, Calls Tryz.prog 44 #[.string t] w1 fun e w' => e = .returned (.string (bs P)) ∧ w' = w1)) :
    Calls Tryz.prog 26 #[pv 4 1 n t ad F.len c] w (RetS (bs (looksL 1 n.data.toList ++ [32] ++ opL 4 ++ [32] ++ P)) w) := by
  have hPz := bs_size P
  have s2 : (({ data := #[112, 97, 116, 104] } : ByteArray) ++ ({ data := #[32, 105, 115, 32] } : ByteArray)).size = 8 := by rw [ByteArray.size_append]; rfl
  have n3 : ¬ 9223372036854775807 < 8 + (bs P).size := by omega
  have HF : Hid ((({ data := #[112, 97, 116, 104] } : ByteArray) ++ ({ data := #[32, 105, 115, 32] } : ByteArray)) ++ bs P = bs (looksL 1 n.data.toList ++ [32] ++ opL 4 ++ [32] ++ P)) := Lib.hid (by
    rw [show ({ data := #[112, 97, 116, 104] } : ByteArray) = bs [112, 97, 116, 104] from rfl, show ({ data := #[32, 105, 115, 32] } : ByteArray) = bs [32, 105, 115, 32] from rfl, bs_app2, bs_app2, hnn]
    simp [looksL, opL, sPath, sIs])
  go_enter Tryz.func26, Tryz.ntmps26
  go_wp2_with (go_at_call 44; refine (HQ.out _).mono ?_; rintro e w1 ⟨rfl, rfl⟩)
  go_ret
  exact ⟨congrArg (fun x => Ending.returned (.string x)) HF.out, b_alloc _ _⟩
set_option maxRecDepth 100000 in
theorem textR_42 (n t : ByteArray) (F : Fo) (ad : Option Addr) (c : Nat) (w : World) (P : List UInt8) (hn : n.size ≤ 32) (hP : P.length ≤ 130) (HQ : Hid (∀ w1, Calls Tryz.prog 44 #[.string t] w1 fun e w' => e = .returned (.string (bs P)) ∧ w' = w1)) :
    Calls Tryz.prog 26 #[pv 4 2 n t ad F.len c] w (RetS (bs (looksL 2 n.data.toList ++ [32] ++ opL 4 ++ [32] ++ P)) w) := by
  have hPz := bs_size P
  have n1 : ¬ 9223372036854775807 < 6 + n.size := by omega
  have s1 : (({ data := #[99, 108, 97, 105, 109, 46] } : ByteArray) ++ n).size = 6 + n.size := by rw [ByteArray.size_append]; rfl
  have n2 : ¬ 9223372036854775807 < 6 + n.size + 4 := by omega
  have s2 : ((({ data := #[99, 108, 97, 105, 109, 46] } : ByteArray) ++ n) ++ ({ data := #[32, 105, 115, 32] } : ByteArray)).size = 6 + n.size + 4 := by rw [ByteArray.size_append, s1]; rfl
  have n3 : ¬ 9223372036854775807 < 6 + n.size + 4 + (bs P).size := by omega
  have HF : Hid (((({ data := #[99, 108, 97, 105, 109, 46] } : ByteArray) ++ n) ++ ({ data := #[32, 105, 115, 32] } : ByteArray)) ++ bs P = bs (looksL 2 n.data.toList ++ [32] ++ opL 4 ++ [32] ++ P)) := Lib.hid (by
    rw [show ({ data := #[99, 108, 97, 105, 109, 46] } : ByteArray) = bs [99, 108, 97, 105, 109, 46] from rfl, show ({ data := #[32, 105, 115, 32] } : ByteArray) = bs [32, 105, 115, 32] from rfl, bs_app, bs_app2, bs_app2]
    simp [looksL, opL, sClaim, sIs])
  go_enter Tryz.func26, Tryz.ntmps26
  go_wp2_with (go_at_call 44; refine (HQ.out _).mono ?_; rintro e w1 ⟨rfl, rfl⟩)
  go_ret
  exact ⟨congrArg (fun x => Ending.returned (.string x)) HF.out, b_alloc _ _⟩
set_option maxRecDepth 100000 in
theorem textR_43 (n t : ByteArray) (F : Fo) (ad : Option Addr) (c : Nat) (w : World) (P : List UInt8) (hn : n.size ≤ 32) (hP : P.length ≤ 130) (HQ : Hid (∀ w1, Calls Tryz.prog 44 #[.string t] w1 fun e w' => e = .returned (.string (bs P)) ∧ w' = w1)) :
    Calls Tryz.prog 26 #[pv 4 3 n t ad F.len c] w (RetS (bs (looksL 3 n.data.toList ++ [32] ++ opL 4 ++ [32] ++ P)) w) := by
  have hPz := bs_size P
  have n1 : ¬ 9223372036854775807 < 5 + n.size := by omega
  have s1 : (({ data := #[99, 101, 114, 116, 46] } : ByteArray) ++ n).size = 5 + n.size := by rw [ByteArray.size_append]; rfl
  have n2 : ¬ 9223372036854775807 < 5 + n.size + 4 := by omega
  have s2 : ((({ data := #[99, 101, 114, 116, 46] } : ByteArray) ++ n) ++ ({ data := #[32, 105, 115, 32] } : ByteArray)).size = 5 + n.size + 4 := by rw [ByteArray.size_append, s1]; rfl
  have n3 : ¬ 9223372036854775807 < 5 + n.size + 4 + (bs P).size := by omega
  have HF : Hid (((({ data := #[99, 101, 114, 116, 46] } : ByteArray) ++ n) ++ ({ data := #[32, 105, 115, 32] } : ByteArray)) ++ bs P = bs (looksL 3 n.data.toList ++ [32] ++ opL 4 ++ [32] ++ P)) := Lib.hid (by
    rw [show ({ data := #[99, 101, 114, 116, 46] } : ByteArray) = bs [99, 101, 114, 116, 46] from rfl, show ({ data := #[32, 105, 115, 32] } : ByteArray) = bs [32, 105, 115, 32] from rfl, bs_app, bs_app2, bs_app2]
    simp [looksL, opL, sCert, sIs])
  go_enter Tryz.func26, Tryz.ntmps26
  go_wp2_with (go_at_call 44; refine (HQ.out _).mono ?_; rintro e w1 ⟨rfl, rfl⟩)
  go_ret
  exact ⟨congrArg (fun x => Ending.returned (.string x)) HF.out, b_alloc _ _⟩
set_option maxRecDepth 100000 in
theorem textR_50 (n t : ByteArray) (F : Fo) (ad : Option Addr) (c : Nat) (w : World) (P : List UInt8) (hnn : n.data.toList = []) (hP : P.length ≤ 130) (HQ : Hid (∀ w1, Calls Tryz.prog 44 #[.string t] w1 fun e w' => e = .returned (.string (bs P)) ∧ w' = w1)) :
    Calls Tryz.prog 26 #[pv 5 0 n t ad F.len c] w (RetS (bs (looksL 0 n.data.toList ++ [32] ++ opL 5 ++ [32] ++ P)) w) := by
  have hPz := bs_size P
  have s2 : (({ data := #[109, 101, 116, 104, 111, 100] } : ByteArray) ++ ({ data := #[32, 98, 101, 103, 105, 110, 115, 32] } : ByteArray)).size = 14 := by rw [ByteArray.size_append]; rfl
  have n3 : ¬ 9223372036854775807 < 14 + (bs P).size := by omega
  have HF : Hid ((({ data := #[109, 101, 116, 104, 111, 100] } : ByteArray) ++ ({ data := #[32, 98, 101, 103, 105, 110, 115, 32] } : ByteArray)) ++ bs P = bs (looksL 0 n.data.toList ++ [32] ++ opL 5 ++ [32] ++ P)) := Lib.hid (by
    rw [show ({ data := #[109, 101, 116, 104, 111, 100] } : ByteArray) = bs [109, 101, 116, 104, 111, 100] from rfl, show ({ data := #[32, 98, 101, 103, 105, 110, 115, 32] } : ByteArray) = bs [32, 98, 101, 103, 105, 110, 115, 32] from rfl, bs_app2, bs_app2, hnn]
    simp [looksL, opL, sMethod, sBegins])
  go_enter Tryz.func26, Tryz.ntmps26
  go_wp2_with (go_at_call 44; refine (HQ.out _).mono ?_; rintro e w1 ⟨rfl, rfl⟩)
  go_ret
  exact ⟨congrArg (fun x => Ending.returned (.string x)) HF.out, b_alloc _ _⟩
set_option maxRecDepth 100000 in
theorem textR_51 (n t : ByteArray) (F : Fo) (ad : Option Addr) (c : Nat) (w : World) (P : List UInt8) (hnn : n.data.toList = []) (hP : P.length ≤ 130) (HQ : Hid (∀ w1, Calls Tryz.prog 44 #[.string t] w1 fun e w' => e = .returned (.string (bs P)) ∧ w' = w1)) :
    Calls Tryz.prog 26 #[pv 5 1 n t ad F.len c] w (RetS (bs (looksL 1 n.data.toList ++ [32] ++ opL 5 ++ [32] ++ P)) w) := by
  have hPz := bs_size P
  have s2 : (({ data := #[112, 97, 116, 104] } : ByteArray) ++ ({ data := #[32, 98, 101, 103, 105, 110, 115, 32] } : ByteArray)).size = 12 := by rw [ByteArray.size_append]; rfl
  have n3 : ¬ 9223372036854775807 < 12 + (bs P).size := by omega
  have HF : Hid ((({ data := #[112, 97, 116, 104] } : ByteArray) ++ ({ data := #[32, 98, 101, 103, 105, 110, 115, 32] } : ByteArray)) ++ bs P = bs (looksL 1 n.data.toList ++ [32] ++ opL 5 ++ [32] ++ P)) := Lib.hid (by
    rw [show ({ data := #[112, 97, 116, 104] } : ByteArray) = bs [112, 97, 116, 104] from rfl, show ({ data := #[32, 98, 101, 103, 105, 110, 115, 32] } : ByteArray) = bs [32, 98, 101, 103, 105, 110, 115, 32] from rfl, bs_app2, bs_app2, hnn]
    simp [looksL, opL, sPath, sBegins])
  go_enter Tryz.func26, Tryz.ntmps26
  go_wp2_with (go_at_call 44; refine (HQ.out _).mono ?_; rintro e w1 ⟨rfl, rfl⟩)
  go_ret
  exact ⟨congrArg (fun x => Ending.returned (.string x)) HF.out, b_alloc _ _⟩
set_option maxRecDepth 100000 in
theorem textR_52 (n t : ByteArray) (F : Fo) (ad : Option Addr) (c : Nat) (w : World) (P : List UInt8) (hn : n.size ≤ 32) (hP : P.length ≤ 130) (HQ : Hid (∀ w1, Calls Tryz.prog 44 #[.string t] w1 fun e w' => e = .returned (.string (bs P)) ∧ w' = w1)) :
    Calls Tryz.prog 26 #[pv 5 2 n t ad F.len c] w (RetS (bs (looksL 2 n.data.toList ++ [32] ++ opL 5 ++ [32] ++ P)) w) := by
  have hPz := bs_size P
  have n1 : ¬ 9223372036854775807 < 6 + n.size := by omega
  have s1 : (({ data := #[99, 108, 97, 105, 109, 46] } : ByteArray) ++ n).size = 6 + n.size := by rw [ByteArray.size_append]; rfl
  have n2 : ¬ 9223372036854775807 < 6 + n.size + 8 := by omega
  have s2 : ((({ data := #[99, 108, 97, 105, 109, 46] } : ByteArray) ++ n) ++ ({ data := #[32, 98, 101, 103, 105, 110, 115, 32] } : ByteArray)).size = 6 + n.size + 8 := by rw [ByteArray.size_append, s1]; rfl
  have n3 : ¬ 9223372036854775807 < 6 + n.size + 8 + (bs P).size := by omega
  have HF : Hid (((({ data := #[99, 108, 97, 105, 109, 46] } : ByteArray) ++ n) ++ ({ data := #[32, 98, 101, 103, 105, 110, 115, 32] } : ByteArray)) ++ bs P = bs (looksL 2 n.data.toList ++ [32] ++ opL 5 ++ [32] ++ P)) := Lib.hid (by
    rw [show ({ data := #[99, 108, 97, 105, 109, 46] } : ByteArray) = bs [99, 108, 97, 105, 109, 46] from rfl, show ({ data := #[32, 98, 101, 103, 105, 110, 115, 32] } : ByteArray) = bs [32, 98, 101, 103, 105, 110, 115, 32] from rfl, bs_app, bs_app2, bs_app2]
    simp [looksL, opL, sClaim, sBegins])
  go_enter Tryz.func26, Tryz.ntmps26
  go_wp2_with (go_at_call 44; refine (HQ.out _).mono ?_; rintro e w1 ⟨rfl, rfl⟩)
  go_ret
  exact ⟨congrArg (fun x => Ending.returned (.string x)) HF.out, b_alloc _ _⟩
set_option maxRecDepth 100000 in
theorem textR_53 (n t : ByteArray) (F : Fo) (ad : Option Addr) (c : Nat) (w : World) (P : List UInt8) (hn : n.size ≤ 32) (hP : P.length ≤ 130) (HQ : Hid (∀ w1, Calls Tryz.prog 44 #[.string t] w1 fun e w' => e = .returned (.string (bs P)) ∧ w' = w1)) :
    Calls Tryz.prog 26 #[pv 5 3 n t ad F.len c] w (RetS (bs (looksL 3 n.data.toList ++ [32] ++ opL 5 ++ [32] ++ P)) w) := by
  have hPz := bs_size P
  have n1 : ¬ 9223372036854775807 < 5 + n.size := by omega
  have s1 : (({ data := #[99, 101, 114, 116, 46] } : ByteArray) ++ n).size = 5 + n.size := by rw [ByteArray.size_append]; rfl
  have n2 : ¬ 9223372036854775807 < 5 + n.size + 8 := by omega
  have s2 : ((({ data := #[99, 101, 114, 116, 46] } : ByteArray) ++ n) ++ ({ data := #[32, 98, 101, 103, 105, 110, 115, 32] } : ByteArray)).size = 5 + n.size + 8 := by rw [ByteArray.size_append, s1]; rfl
  have n3 : ¬ 9223372036854775807 < 5 + n.size + 8 + (bs P).size := by omega
  have HF : Hid (((({ data := #[99, 101, 114, 116, 46] } : ByteArray) ++ n) ++ ({ data := #[32, 98, 101, 103, 105, 110, 115, 32] } : ByteArray)) ++ bs P = bs (looksL 3 n.data.toList ++ [32] ++ opL 5 ++ [32] ++ P)) := Lib.hid (by
    rw [show ({ data := #[99, 101, 114, 116, 46] } : ByteArray) = bs [99, 101, 114, 116, 46] from rfl, show ({ data := #[32, 98, 101, 103, 105, 110, 115, 32] } : ByteArray) = bs [32, 98, 101, 103, 105, 110, 115, 32] from rfl, bs_app, bs_app2, bs_app2]
    simp [looksL, opL, sCert, sBegins])
  go_enter Tryz.func26, Tryz.ntmps26
  go_wp2_with (go_at_call 44; refine (HQ.out _).mono ?_; rintro e w1 ⟨rfl, rfl⟩)
  go_ret
  exact ⟨congrArg (fun x => Ending.returned (.string x)) HF.out, b_alloc _ _⟩
set_option maxRecDepth 100000 in
theorem textR_60 (n t : ByteArray) (F : Fo) (ad : Option Addr) (c : Nat) (w : World) (P : List UInt8) (hnn : n.data.toList = []) (hP : P.length ≤ 130) (HQ : Hid (∀ w1, Calls Tryz.prog 44 #[.string t] w1 fun e w' => e = .returned (.string (bs P)) ∧ w' = w1)) :
    Calls Tryz.prog 26 #[pv 6 0 n t ad F.len c] w (RetS (bs (looksL 0 n.data.toList ++ [32] ++ opL 6 ++ [32] ++ P)) w) := by
  have hPz := bs_size P
  have s2 : (({ data := #[109, 101, 116, 104, 111, 100] } : ByteArray) ++ ({ data := #[32, 104, 97, 115, 32] } : ByteArray)).size = 11 := by rw [ByteArray.size_append]; rfl
  have n3 : ¬ 9223372036854775807 < 11 + (bs P).size := by omega
  have HF : Hid ((({ data := #[109, 101, 116, 104, 111, 100] } : ByteArray) ++ ({ data := #[32, 104, 97, 115, 32] } : ByteArray)) ++ bs P = bs (looksL 0 n.data.toList ++ [32] ++ opL 6 ++ [32] ++ P)) := Lib.hid (by
    rw [show ({ data := #[109, 101, 116, 104, 111, 100] } : ByteArray) = bs [109, 101, 116, 104, 111, 100] from rfl, show ({ data := #[32, 104, 97, 115, 32] } : ByteArray) = bs [32, 104, 97, 115, 32] from rfl, bs_app2, bs_app2, hnn]
    simp [looksL, opL, sMethod, sHas])
  go_enter Tryz.func26, Tryz.ntmps26
  go_wp2_with (go_at_call 44; refine (HQ.out _).mono ?_; rintro e w1 ⟨rfl, rfl⟩)
  go_ret
  exact ⟨congrArg (fun x => Ending.returned (.string x)) HF.out, b_alloc _ _⟩
set_option maxRecDepth 100000 in
theorem textR_61 (n t : ByteArray) (F : Fo) (ad : Option Addr) (c : Nat) (w : World) (P : List UInt8) (hnn : n.data.toList = []) (hP : P.length ≤ 130) (HQ : Hid (∀ w1, Calls Tryz.prog 44 #[.string t] w1 fun e w' => e = .returned (.string (bs P)) ∧ w' = w1)) :
    Calls Tryz.prog 26 #[pv 6 1 n t ad F.len c] w (RetS (bs (looksL 1 n.data.toList ++ [32] ++ opL 6 ++ [32] ++ P)) w) := by
  have hPz := bs_size P
  have s2 : (({ data := #[112, 97, 116, 104] } : ByteArray) ++ ({ data := #[32, 104, 97, 115, 32] } : ByteArray)).size = 9 := by rw [ByteArray.size_append]; rfl
  have n3 : ¬ 9223372036854775807 < 9 + (bs P).size := by omega
  have HF : Hid ((({ data := #[112, 97, 116, 104] } : ByteArray) ++ ({ data := #[32, 104, 97, 115, 32] } : ByteArray)) ++ bs P = bs (looksL 1 n.data.toList ++ [32] ++ opL 6 ++ [32] ++ P)) := Lib.hid (by
    rw [show ({ data := #[112, 97, 116, 104] } : ByteArray) = bs [112, 97, 116, 104] from rfl, show ({ data := #[32, 104, 97, 115, 32] } : ByteArray) = bs [32, 104, 97, 115, 32] from rfl, bs_app2, bs_app2, hnn]
    simp [looksL, opL, sPath, sHas])
  go_enter Tryz.func26, Tryz.ntmps26
  go_wp2_with (go_at_call 44; refine (HQ.out _).mono ?_; rintro e w1 ⟨rfl, rfl⟩)
  go_ret
  exact ⟨congrArg (fun x => Ending.returned (.string x)) HF.out, b_alloc _ _⟩
set_option maxRecDepth 100000 in
theorem textR_62 (n t : ByteArray) (F : Fo) (ad : Option Addr) (c : Nat) (w : World) (P : List UInt8) (hn : n.size ≤ 32) (hP : P.length ≤ 130) (HQ : Hid (∀ w1, Calls Tryz.prog 44 #[.string t] w1 fun e w' => e = .returned (.string (bs P)) ∧ w' = w1)) :
    Calls Tryz.prog 26 #[pv 6 2 n t ad F.len c] w (RetS (bs (looksL 2 n.data.toList ++ [32] ++ opL 6 ++ [32] ++ P)) w) := by
  have hPz := bs_size P
  have n1 : ¬ 9223372036854775807 < 6 + n.size := by omega
  have s1 : (({ data := #[99, 108, 97, 105, 109, 46] } : ByteArray) ++ n).size = 6 + n.size := by rw [ByteArray.size_append]; rfl
  have n2 : ¬ 9223372036854775807 < 6 + n.size + 5 := by omega
  have s2 : ((({ data := #[99, 108, 97, 105, 109, 46] } : ByteArray) ++ n) ++ ({ data := #[32, 104, 97, 115, 32] } : ByteArray)).size = 6 + n.size + 5 := by rw [ByteArray.size_append, s1]; rfl
  have n3 : ¬ 9223372036854775807 < 6 + n.size + 5 + (bs P).size := by omega
  have HF : Hid (((({ data := #[99, 108, 97, 105, 109, 46] } : ByteArray) ++ n) ++ ({ data := #[32, 104, 97, 115, 32] } : ByteArray)) ++ bs P = bs (looksL 2 n.data.toList ++ [32] ++ opL 6 ++ [32] ++ P)) := Lib.hid (by
    rw [show ({ data := #[99, 108, 97, 105, 109, 46] } : ByteArray) = bs [99, 108, 97, 105, 109, 46] from rfl, show ({ data := #[32, 104, 97, 115, 32] } : ByteArray) = bs [32, 104, 97, 115, 32] from rfl, bs_app, bs_app2, bs_app2]
    simp [looksL, opL, sClaim, sHas])
  go_enter Tryz.func26, Tryz.ntmps26
  go_wp2_with (go_at_call 44; refine (HQ.out _).mono ?_; rintro e w1 ⟨rfl, rfl⟩)
  go_ret
  exact ⟨congrArg (fun x => Ending.returned (.string x)) HF.out, b_alloc _ _⟩
set_option maxRecDepth 100000 in
theorem textR_63 (n t : ByteArray) (F : Fo) (ad : Option Addr) (c : Nat) (w : World) (P : List UInt8) (hn : n.size ≤ 32) (hP : P.length ≤ 130) (HQ : Hid (∀ w1, Calls Tryz.prog 44 #[.string t] w1 fun e w' => e = .returned (.string (bs P)) ∧ w' = w1)) :
    Calls Tryz.prog 26 #[pv 6 3 n t ad F.len c] w (RetS (bs (looksL 3 n.data.toList ++ [32] ++ opL 6 ++ [32] ++ P)) w) := by
  have hPz := bs_size P
  have n1 : ¬ 9223372036854775807 < 5 + n.size := by omega
  have s1 : (({ data := #[99, 101, 114, 116, 46] } : ByteArray) ++ n).size = 5 + n.size := by rw [ByteArray.size_append]; rfl
  have n2 : ¬ 9223372036854775807 < 5 + n.size + 5 := by omega
  have s2 : ((({ data := #[99, 101, 114, 116, 46] } : ByteArray) ++ n) ++ ({ data := #[32, 104, 97, 115, 32] } : ByteArray)).size = 5 + n.size + 5 := by rw [ByteArray.size_append, s1]; rfl
  have n3 : ¬ 9223372036854775807 < 5 + n.size + 5 + (bs P).size := by omega
  have HF : Hid (((({ data := #[99, 101, 114, 116, 46] } : ByteArray) ++ n) ++ ({ data := #[32, 104, 97, 115, 32] } : ByteArray)) ++ bs P = bs (looksL 3 n.data.toList ++ [32] ++ opL 6 ++ [32] ++ P)) := Lib.hid (by
    rw [show ({ data := #[99, 101, 114, 116, 46] } : ByteArray) = bs [99, 101, 114, 116, 46] from rfl, show ({ data := #[32, 104, 97, 115, 32] } : ByteArray) = bs [32, 104, 97, 115, 32] from rfl, bs_app, bs_app2, bs_app2]
    simp [looksL, opL, sCert, sHas])
  go_enter Tryz.func26, Tryz.ntmps26
  go_wp2_with (go_at_call 44; refine (HQ.out _).mono ?_; rintro e w1 ⟨rfl, rfl⟩)
  go_ret
  exact ⟨congrArg (fun x => Ending.returned (.string x)) HF.out, b_alloc _ _⟩
set_option maxRecDepth 100000 in
set_option maxHeartbeats 4000000 in
/-- A test's text. -/
theorem textR_test (k o : Int) (n t : ByteArray) (F : Fo) (ad : Option Addr) (c : Nat) (w : World) (h4 : k = 4 ∨ k = 5 ∨ k = 6) (h0 : 0 ≤ o) (h1 : o < 4) (hn : n.size ≤ 32) (ht : t.size ≤ 64) (hne : ¬ (o = 2 ∨ o = 3) → n.toList = []) :
    Calls Tryz.prog 26 #[pv k o n t ad F.len c] w (RetS (bs (textP k o n t F)) w) := by
  have hq : t.data.toList.length ≤ 64 := by simpa using ht
  have HQ : Hid (∀ w1, Calls Tryz.prog 44 #[.string t] w1 fun e w' => e = .returned (.string (bs ([34] ++ quoteL t.data.toList ++ [34]))) ∧ w' = w1) := Lib.hid fun w1 => by
    have := quoted_any t.data.toList w1 hq
    rw [bs_of2] at this
    exact this
  have hql : (quoteL t.data.toList).length ≤ 128 := by have := quote_le t.data.toList; omega
  have htx : textP k o n t F = looksL o n.data.toList ++ [32] ++ opL k ++ [32] ++ ([34] ++ quoteL t.data.toList ++ [34]) := by
    unfold textP textN
    rw [if_neg (by omega), if_neg (by omega), if_neg (by omega), if_neg (by omega)]
    simp
  rw [htx]
  have hPl : ([34] ++ quoteL t.data.toList ++ [34]).length ≤ 130 := by simp; omega
  have hcase : o = 0 ∨ o = 1 ∨ o = 2 ∨ o = 3 := by omega
  have hnn : ¬ (o = 2 ∨ o = 3) → n.data.toList = [] := fun h => by rw [← dl]; exact hne h
  rcases h4 with rfl | rfl | rfl <;> rcases hcase with rfl | rfl | rfl | rfl
  · exact textR_40 n t F ad c w _ (hnn (by omega)) hPl HQ
  · exact textR_41 n t F ad c w _ (hnn (by omega)) hPl HQ
  · exact textR_42 n t F ad c w _ hn hPl HQ
  · exact textR_43 n t F ad c w _ hn hPl HQ
  · exact textR_50 n t F ad c w _ (hnn (by omega)) hPl HQ
  · exact textR_51 n t F ad c w _ (hnn (by omega)) hPl HQ
  · exact textR_52 n t F ad c w _ hn hPl HQ
  · exact textR_53 n t F ad c w _ hn hPl HQ
  · exact textR_60 n t F ad c w _ (hnn (by omega)) hPl HQ
  · exact textR_61 n t F ad c w _ (hnn (by omega)) hPl HQ
  · exact textR_62 n t F ad c w _ hn hPl HQ
  · exact textR_63 n t F ad c w _ hn hPl HQ
end Go.Proofs.YthpagppipifgeaaGreatDoor
/- ostiaryref20.text: the walk of any node. -/
namespace Go.Proofs.YthpagppipifgeaaGreatDoor
open Go.RowKit

set_option maxRecDepth 100000 in
set_option maxHeartbeats 4000000 in
theorem textR_step (F : Fo) (h : F.All TextRAt) : TextRAt F := by
  intro k o n t ad c w hm hc hs
  have hMX := MX_eq
  have hlc := Fo.len_cnt F
  have htl := textP_le hm hc
  by_cases k0 : k = 0
  · subst k0
    clear h hs
    go_enter Tryz.func26, Tryz.ntmps26
    go_wp2_with fail
    go_ret
    exact ⟨rfl, b_alloc _ _⟩
  by_cases k1 : k = 1
  · subst k1
    obtain ⟨hl1, hfm⟩ := one_len hm
    obtain ⟨hle, hcm, b, f, had, hrow⟩ := hs
    obtain ⟨k1, o1, n1, t1, kids, nx, rfl⟩ : ∃ k1 o1 n1 t1 kids nx, F = .cons k1 o1 n1 t1 kids nx := by
      cases F with
      | nil => cases hl1
      | cons k1 o1 n1 t1 kids nx => exact ⟨k1, o1, n1, t1, kids, nx, rfl⟩
    obtain rfl : ad = some ⟨b, f, none⟩ := by rcases had with h | ⟨_, h⟩; exact h; omega
    have hmg : mayP k1 o1 n1 t1 kids = true := by simp only [Fo.may, Bool.and_eq_true] at hfm; exact hfm.1
    have hcn : kids.cnt + nx.cnt + 1 ≤ 1000000 := hc
    obtain ⟨T1, hT1⟩ : ∃ T1, T1 = wrapT 1 k1 (textP k1 o1 n1 t1 kids) := ⟨_, rfl⟩
    have hTT : textP 1 o n t (Fo.cons k1 o1 n1 t1 kids nx) = sNotB ++ T1 := by rw [hT1]; rfl
    rw [hTT] at htl ⊢
    obtain ⟨L, hL⟩ : ∃ L, L = (Fo.cons k1 o1 n1 t1 kids nx).len := ⟨_, rfl⟩
    rw [← hL]
    have hl0 : (0 : Int) < (L : Int) := by omega
    have hlm : L ≤ MX := by omega
    have hgo : Below w.heap.size w (w.alloc (.cells #[.int .i64 1, .int .i64 o, .string n, .string t, .slice (some ⟨b, f, none⟩) L c] 24)) := b_alloc w _
    obtain ⟨a1, c1, h0, h1, h2, h3, h4, r1, r2, hsl, _⟩ := (hrow.below hgo (Nat.le_refl _)).kids
    have hsz := bs_size T1
    have hn4 : ¬ 9223372036854775807 < 4 + (bs T1).size := by rw [List.length_append] at htl; omega
    have HC : Hid (∀ w1, Below (w.alloc (.cells #[.int .i64 1, .int .i64 o, .string n, .string t, .slice (some ⟨b, f, none⟩) L c] 24)).heap.size (w.alloc (.cells #[.int .i64 1, .int .i64 o, .string n, .string t, .slice (some ⟨b, f, none⟩) L c] 24)) w1 → Calls Tryz.prog 43 #[pv k1 o1 n1 t1 a1 kids.len c1, .int .i64 1] w1 (RetS (bs T1) w1)) := Lib.hid fun w1 hb => by
      rw [hT1]
      exact inner_any 1 kids h.1 k1 o1 n1 t1 a1 c1 w1 hmg (by omega) (hsl.grown hb)
    have HF : Hid (({ data := #[110, 111, 116, 32] } : ByteArray) ++ bs T1 = bs (sNotB ++ T1)) := Lib.hid (bs_app2 sNotB T1)
    have HGO := Lib.hid hgo
    clear h hm hc hrow hsl hT1 hTT htl hgo hfm hl1 had hL hlc hle
    go_enter Tryz.func26, Tryz.ntmps26
    go_upto_region 5 with fail
    go_region_with (go_at_call 43; refine (HC.out _ (by repeat (first | exact Below.refl _ _ | refine Below.drew ?_))).mono ?_; rintro e w2 ⟨rfl, hb2⟩)
    all_goals
      go_wp2_with fail
      go_ret
      exact ⟨congrArg (fun x => Ending.returned (.string x)) HF.out, b_trans (by repeat (first | exact HGO.out | refine Below.drew ?_)) hb2⟩
  by_cases k23 : k = 2 ∨ k = 3
  · obtain ⟨hl2, hfm⟩ := two_len k23 hm
    obtain ⟨hle, hcm, b, f, had, hrow⟩ := hs
    obtain ⟨k1, o1, n1, t1, kids, nx, rfl⟩ : ∃ k1 o1 n1 t1 kids nx, F = .cons k1 o1 n1 t1 kids nx := by
      cases F with
      | nil => exact absurd hl2 (by decide)
      | cons k1 o1 n1 t1 kids nx => exact ⟨k1, o1, n1, t1, kids, nx, rfl⟩
    obtain rfl : ad = some ⟨b, f, none⟩ := by rcases had with h | ⟨_, h⟩; exact h; omega
    have hmm : nodeB k1 o1 n1 t1 kids.len kids.may = true ∧ nx.may = true := by simpa [Fo.may] using hfm
    have hcn : kids.cnt + nx.cnt + 1 ≤ 1000000 := hc
    obtain ⟨_, _, _, _, _, _, _, _, _, _, hrn⟩ := hrow.kids
    obtain ⟨T1, hT1⟩ : ∃ T1, T1 = wrapT k k1 (textP k1 o1 n1 t1 kids) := ⟨_, rfl⟩
    have hTT : textP k o n t (Fo.cons k1 o1 n1 t1 kids nx) = T1 ++ joinT (sepOf k) (nx.txs k) := by
      rw [textP_two k23, hT1, ← join_rest]; rfl
    obtain ⟨J, hJ⟩ : ∃ J, J = T1 ++ joinT (sepOf k) (nx.txs k) := ⟨_, rfl⟩
    rw [hTT, ← hJ] at htl ⊢
    obtain ⟨L, hL⟩ : ∃ L, L = (Fo.cons k1 o1 n1 t1 kids nx).len := ⟨_, rfl⟩
    have hLn : L = nx.len + 1 := hL
    rw [← hL]
    have hl0 : (0 : Int) < (L : Int) := by omega
    have hlm : L ≤ MX := by omega
    obtain ⟨w0, hw0⟩ : ∃ w0, w0 = (w.alloc (.cells #[.int .i64 k, .int .i64 o, .string n, .string t, .slice (some ⟨b, f, none⟩) L c] 24)) := ⟨_, rfl⟩
    have hgo : Below w.heap.size w w0 := by rw [hw0]; exact b_alloc w _
    have hsz0 : w0.heap.size = w.heap.size + 1 := by rw [hw0]; simp
    have hcell : ∀ i v, (#[.int .i64 k, .int .i64 o, .string n, .string t, .slice (some ⟨b, f, none⟩) L c] : Array Value)[i]? = some v → w0.cell? ⟨w.heap.size, i, none⟩ = some v := fun i v hv => by rw [hw0]; exact new_cell rfl _ _ i hv
    obtain ⟨a1, c1, h0, h1, h2, h3, h4, r1, r2, hsl, _⟩ := (hrow.below hgo (Nat.le_refl _)).kids
    have q0 := hcell 0 _ rfl
    have q4 := hcell 4 _ rfl
    have HC : Hid (∀ w1, Below w0.heap.size w0 w1 → Calls Tryz.prog 43 #[pv k1 o1 n1 t1 a1 kids.len c1, .int .i64 k] w1 (RetS (bs T1) w1)) := Lib.hid fun w1 hb => by
      rw [hT1]
      exact inner_any k kids h.1 k1 o1 n1 t1 a1 c1 w1 hmm.1 (by omega) (hsl.grown hb)
    have HIH := Lib.hid h.2
    have HMM := Lib.hid hmm.2
    have HRN := Lib.hid hrn
    have HJ := Lib.hid hJ
    have HCELL := Lib.hid hcell
    have HCN : Hid (nx.cnt ≤ 1000000) := Lib.hid (by omega)
    have HLN := Lib.hid hLn
    have HGO := Lib.hid hgo
    have HSZ := Lib.hid hsz0
    clear h hm hc hrow hsl hT1 hTT hfm had hmm hrn hJ hcell hL hLn hlc hle hl2 hcn hgo hsz0
    rcases k23 with rfl | rfl
    · go_enter Tryz.func26, Tryz.ntmps26
      go_upto_region 8 with fail
      rw [← hw0]
      clear hw0
      go_cut [3] (fun s3 wx => s3 = .string (bs T1) ∧ Aside (Below w0.heap.size w0 wx))
      case first =>
        clear HIH HMM HRN HJ HCELL HCN HLN HGO HSZ
        go_region_with (go_at_call 43; refine (HC.out _ (by repeat (first | exact Below.refl _ _ | refine Below.drew ?_))).mono ?_; rintro e w2 ⟨rfl, hb2⟩)
        all_goals
          go_wp2_with fail
          go_meet
          exact ⟨rfl, b_trans (by repeat (first | exact Below.refl _ _ | refine Below.drew ?_)) hb2⟩
      case rest =>
      obtain ⟨rfl, BW1⟩ := hcut
      clear HC h0 h1 h2 h3 h4 r1 r2 q0 q4
      go_upto_region 10 with fail
      go_loopg [3, 4] nx.len (fun gg s3 s4 wr => ∃ (kk : Nat) (G : Fo) (q : List UInt8), kk + G.len = L ∧ gg = G.len ∧ s3 = .string (bs q) ∧ s4 = .int .i64 kk ∧ Aside (Below w0.heap.size w0 wr) ∧ Aside (Row w G b (f + 5 * kk)) ∧ Aside (G.All TextRAt) ∧ Aside (q ++ joinT sAndB (G.txs 2) = J) ∧ Aside (G.may = true) ∧ Aside (G.cnt ≤ 1000000))
      case atStart => exact ⟨1, nx, T1, by rw [HLN.out]; omega, rfl, rfl, rfl, BW1.out, HRN.out, HIH.out, HJ.out.symm, HMM.out, HCN.out⟩
      case round =>
        obtain ⟨kk, G, q, hkk, rfl, rfl, rfl, BW, HR, HP, HX, HMG, HCG⟩ := hrel
        clear HIH HMM HRN HJ HCN HLN BW1
        have hq0 : wr.cell? ⟨w.heap.size, 0, none⟩ = some (.int .i64 2) := (BW.out.cell (p := ⟨w.heap.size, 0, none⟩) (show w.heap.size < w0.heap.size by have := HSZ.out; omega)).trans (HCELL.out 0 _ rfl)
        have hq4 : wr.cell? ⟨w.heap.size, 4, none⟩ = some (.slice (some ⟨b, f, none⟩) L c) := (BW.out.cell (p := ⟨w.heap.size, 4, none⟩) (show w.heap.size < w0.heap.size by have := HSZ.out; omega)).trans (HCELL.out 4 _ rfl)
        have hBW0 : Below w.heap.size w wr := HGO.out.trans (BW.out.mono HGO.out.size)
        cases G with
        | nil =>
          have hltz : ¬ (kk : Int) < (L : Int) := by simp only [Fo.len] at hkk; omega
          have HB := Lib.hid hBW0
          have HQ : Hid (q = J) := Lib.hid (by have := HX.out; simpa [Fo.txs, joinT] using this)
          clear hBW0
          go_wp2_with fail
          go_ret
          rw [← HQ.out]
          exact ⟨rfl, HB.out⟩
        | cons k1 o1 n1 t1 kids nx =>
          have hln : (Fo.cons k1 o1 n1 t1 kids nx).len = nx.len + 1 := rfl
          have hltz : (kk : Int) < (L : Int) := by omega
          obtain ⟨a1, c1, h0, h1, h2, h3, h4, r1, r2, hsl, _⟩ := (HR.out.below hBW0 (Nat.le_refl _)).kids
          obtain ⟨_, _, _, _, _, _, _, _, _, _, hrn⟩ := HR.out.kids
          rw [show f + 5 * kk = f + kk * 5 by omega] at h0 h1 h2 h3 h4
          obtain ⟨hp1, hpn⟩ := HP.out
          have hmg : nodeB k1 o1 n1 t1 kids.len kids.may = true ∧ nx.may = true := by have h := HMG.out; simpa [Fo.may] using h
          have hcn : kids.cnt + nx.cnt + 1 ≤ 1000000 := HCG.out
          obtain ⟨T2, hT2⟩ : ∃ T2, T2 = wrapT 2 k1 (textP k1 o1 n1 t1 kids) := ⟨_, rfl⟩
          have HC : Hid (∀ w1, Below wr.heap.size wr w1 → Calls Tryz.prog 43 #[pv k1 o1 n1 t1 a1 kids.len c1, .int .i64 2] w1 (RetS (bs T2) w1)) := Lib.hid fun w1 hb => by
            rw [hT2]
            exact inner_any 2 kids hp1 k1 o1 n1 t1 a1 c1 w1 hmg.1 (by omega) (hsl.grown hb)
          have hX2 : q ++ sAndB ++ T2 ++ joinT sAndB (nx.txs 2) = J := by
            rw [hT2, ← HX.out]
            show _ = q ++ joinT sAndB (wrapT 2 k1 (textN k1 o1 n1 t1 (kids.txs k1)) :: nx.txs 2)
            simp [joinT, textP]
          have hql : q.length + 5 + T2.length ≤ 1000000000 := by
            have h := congrArg List.length hX2
            simp only [List.length_append] at h
            have : sAndB.length = 5 := rfl
            omega
          have hqz := bs_size q
          have htz := bs_size T2
          have n1' : ¬ 9223372036854775807 < (bs q).size + 5 := by omega
          have s1 : (bs q ++ ({ data := #[32, 97, 110, 100, 32] } : ByteArray)).size = (bs q).size + 5 := by rw [ByteArray.size_append]; rfl
          have n2' : ¬ 9223372036854775807 < (bs q).size + 5 + (bs T2).size := by omega
          have HCAT : Hid ((bs q ++ ({ data := #[32, 97, 110, 100, 32] } : ByteArray)) ++ bs T2 = bs (q ++ sAndB ++ T2)) := Lib.hid (by rw [show ({ data := #[32, 97, 110, 100, 32] } : ByteArray) = bs sAndB from rfl, bs_app2, bs_app2])
          have HX2 := Lib.hid hX2
          have hPn : Aside _ := hpn
          have hRn : Aside _ := hrn
          have hMN : Aside _ := hmg.2
          have HCN2 : Hid (nx.cnt ≤ 1000000) := Lib.hid (by omega)
          clear hpn hrn hsl hp1 HP HR HX HMG HCG hBW0 hT2 hX2 hmg hcn hql hqz htz
          go_upto_region 15 with fail
          go_region_with (go_at_call 43; refine (HC.out _ (by repeat (first | exact Below.refl _ _ | refine Below.drew ?_))).mono ?_; rintro e w2 ⟨rfl, hb2⟩)
          all_goals
            go_wp2_with fail
            go_roundg nx.len
            case measure => omega
            case rel =>
              refine ⟨kk + 1, nx, q ++ sAndB ++ T2, by omega, rfl, by rw [← HCAT.out], by go_num, b_trans BW.out (b_trans (by repeat (first | exact Below.refl _ _ | refine Below.drew ?_)) hb2), ?_, hPn.out, HX2.out, hMN.out, HCN2.out⟩
              rw [show f + 5 * (kk + 1) = f + 5 * kk + 5 by omega]; exact hRn.out
    · go_enter Tryz.func26, Tryz.ntmps26
      go_upto_region 8 with fail
      rw [← hw0]
      clear hw0
      go_cut [3] (fun s3 wx => s3 = .string (bs T1) ∧ Aside (Below w0.heap.size w0 wx))
      case first =>
        clear HIH HMM HRN HJ HCELL HCN HLN HGO HSZ
        go_region_with (go_at_call 43; refine (HC.out _ (by repeat (first | exact Below.refl _ _ | refine Below.drew ?_))).mono ?_; rintro e w2 ⟨rfl, hb2⟩)
        all_goals
          go_wp2_with fail
          go_meet
          exact ⟨rfl, b_trans (by repeat (first | exact Below.refl _ _ | refine Below.drew ?_)) hb2⟩
      case rest =>
      obtain ⟨rfl, BW1⟩ := hcut
      clear HC h0 h1 h2 h3 h4 r1 r2 q0 q4
      go_upto_region 10 with fail
      go_loopg [3, 4] nx.len (fun gg s3 s4 wr => ∃ (kk : Nat) (G : Fo) (q : List UInt8), kk + G.len = L ∧ gg = G.len ∧ s3 = .string (bs q) ∧ s4 = .int .i64 kk ∧ Aside (Below w0.heap.size w0 wr) ∧ Aside (Row w G b (f + 5 * kk)) ∧ Aside (G.All TextRAt) ∧ Aside (q ++ joinT sOrB (G.txs 3) = J) ∧ Aside (G.may = true) ∧ Aside (G.cnt ≤ 1000000))
      case atStart => exact ⟨1, nx, T1, by rw [HLN.out]; omega, rfl, rfl, rfl, BW1.out, HRN.out, HIH.out, HJ.out.symm, HMM.out, HCN.out⟩
      case round =>
        obtain ⟨kk, G, q, hkk, rfl, rfl, rfl, BW, HR, HP, HX, HMG, HCG⟩ := hrel
        clear HIH HMM HRN HJ HCN HLN BW1
        have hq0 : wr.cell? ⟨w.heap.size, 0, none⟩ = some (.int .i64 3) := (BW.out.cell (p := ⟨w.heap.size, 0, none⟩) (show w.heap.size < w0.heap.size by have := HSZ.out; omega)).trans (HCELL.out 0 _ rfl)
        have hq4 : wr.cell? ⟨w.heap.size, 4, none⟩ = some (.slice (some ⟨b, f, none⟩) L c) := (BW.out.cell (p := ⟨w.heap.size, 4, none⟩) (show w.heap.size < w0.heap.size by have := HSZ.out; omega)).trans (HCELL.out 4 _ rfl)
        have hBW0 : Below w.heap.size w wr := HGO.out.trans (BW.out.mono HGO.out.size)
        cases G with
        | nil =>
          have hltz : ¬ (kk : Int) < (L : Int) := by simp only [Fo.len] at hkk; omega
          have HB := Lib.hid hBW0
          have HQ : Hid (q = J) := Lib.hid (by have := HX.out; simpa [Fo.txs, joinT] using this)
          clear hBW0
          go_wp2_with fail
          go_ret
          rw [← HQ.out]
          exact ⟨rfl, HB.out⟩
        | cons k1 o1 n1 t1 kids nx =>
          have hln : (Fo.cons k1 o1 n1 t1 kids nx).len = nx.len + 1 := rfl
          have hltz : (kk : Int) < (L : Int) := by omega
          obtain ⟨a1, c1, h0, h1, h2, h3, h4, r1, r2, hsl, _⟩ := (HR.out.below hBW0 (Nat.le_refl _)).kids
          obtain ⟨_, _, _, _, _, _, _, _, _, _, hrn⟩ := HR.out.kids
          rw [show f + 5 * kk = f + kk * 5 by omega] at h0 h1 h2 h3 h4
          obtain ⟨hp1, hpn⟩ := HP.out
          have hmg : nodeB k1 o1 n1 t1 kids.len kids.may = true ∧ nx.may = true := by have h := HMG.out; simpa [Fo.may] using h
          have hcn : kids.cnt + nx.cnt + 1 ≤ 1000000 := HCG.out
          obtain ⟨T2, hT2⟩ : ∃ T2, T2 = wrapT 3 k1 (textP k1 o1 n1 t1 kids) := ⟨_, rfl⟩
          have HC : Hid (∀ w1, Below wr.heap.size wr w1 → Calls Tryz.prog 43 #[pv k1 o1 n1 t1 a1 kids.len c1, .int .i64 3] w1 (RetS (bs T2) w1)) := Lib.hid fun w1 hb => by
            rw [hT2]
            exact inner_any 3 kids hp1 k1 o1 n1 t1 a1 c1 w1 hmg.1 (by omega) (hsl.grown hb)
          have hX2 : q ++ sOrB ++ T2 ++ joinT sOrB (nx.txs 3) = J := by
            rw [hT2, ← HX.out]
            show _ = q ++ joinT sOrB (wrapT 3 k1 (textN k1 o1 n1 t1 (kids.txs k1)) :: nx.txs 3)
            simp [joinT, textP]
          have hql : q.length + 4 + T2.length ≤ 1000000000 := by
            have h := congrArg List.length hX2
            simp only [List.length_append] at h
            have : sOrB.length = 4 := rfl
            omega
          have hqz := bs_size q
          have htz := bs_size T2
          have n1' : ¬ 9223372036854775807 < (bs q).size + 4 := by omega
          have s1 : (bs q ++ ({ data := #[32, 111, 114, 32] } : ByteArray)).size = (bs q).size + 4 := by rw [ByteArray.size_append]; rfl
          have n2' : ¬ 9223372036854775807 < (bs q).size + 4 + (bs T2).size := by omega
          have HCAT : Hid ((bs q ++ ({ data := #[32, 111, 114, 32] } : ByteArray)) ++ bs T2 = bs (q ++ sOrB ++ T2)) := Lib.hid (by rw [show ({ data := #[32, 111, 114, 32] } : ByteArray) = bs sOrB from rfl, bs_app2, bs_app2])
          have HX2 := Lib.hid hX2
          have hPn : Aside _ := hpn
          have hRn : Aside _ := hrn
          have hMN : Aside _ := hmg.2
          have HCN2 : Hid (nx.cnt ≤ 1000000) := Lib.hid (by omega)
          clear hpn hrn hsl hp1 HP HR HX HMG HCG hBW0 hT2 hX2 hmg hcn hql hqz htz
          go_upto_region 15 with fail
          go_region_with (go_at_call 43; refine (HC.out _ (by repeat (first | exact Below.refl _ _ | refine Below.drew ?_))).mono ?_; rintro e w2 ⟨rfl, hb2⟩)
          all_goals
            go_wp2_with fail
            go_roundg nx.len
            case measure => omega
            case rel =>
              refine ⟨kk + 1, nx, q ++ sOrB ++ T2, by omega, rfl, by rw [← HCAT.out], by go_num, b_trans BW.out (b_trans (by repeat (first | exact Below.refl _ _ | refine Below.drew ?_)) hb2), ?_, hPn.out, HX2.out, hMN.out, HCN2.out⟩
              rw [show f + 5 * (kk + 1) = f + 5 * kk + 5 by omega]; exact hRn.out
  · obtain ⟨h4, h0, h1, hn, ht, _, hne⟩ := test_len k0 k1 (fun h => k23 (Or.inl h)) (fun h => k23 (Or.inr h)) hm
    exact textR_test k o n t F ad c w h4 h0 h1 hn ht hne
theorem textR_any (F : Fo) : TextRAt F := Fo.rec_all textR_step F
end Go.Proofs.YthpagppipifgeaaGreatDoor
