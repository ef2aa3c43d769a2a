/- Div Read Form0 Form PadE, in one text. -/
import Derived.Test.YtaggpodckafbgaaGreatDoorZN1
import Derived.Test.YtaggpodckafbgaaGreatDoorZShelf
import Derived.Test.YtaggpodckafbgaaGreatDoorZD
import Derived.Deep.RegionWith
import Derived.Deep.RegionHeld3
import Derived.Lib.TrimByte
/- limbs.div: the walk. -/
namespace Go.Proofs.YtaggpodckafbgaaGreatDoor
open Go.RowKit
end Go.Proofs.YtaggpodckafbgaaGreatDoor
/- limbs.left and read: the walks. -/
namespace Go.Proofs.YtaggpodckafbgaaGreatDoor
open Go.RowKit
def bv (l : List UInt8) : Nat := l.foldl (fun a c => a * 256 + c.toNat) 0
theorem bv_acc (l : List UInt8) : ∀ a : Nat, l.foldl (fun a c => a * 256 + c.toNat) a = a * 256 ^ l.length + bv l := by
  induction l with
  | nil => intro a; simp [bv]
  | cons c l ih =>
    intro a
    show l.foldl _ (a * 256 + c.toNat) = _
    have h : bv (c :: l) = l.foldl (fun a c => a * 256 + c.toNat) (0 * 256 + c.toNat) := rfl
    rw [ih, h, ih, List.length_cons, Nat.pow_succ, Nat.add_mul, Nat.zero_mul, Nat.zero_add, Nat.mul_assoc, Nat.mul_comm 256]
    omega
theorem bv_cons (c : UInt8) (l : List UInt8) : bv (c :: l) = c.toNat * 256 ^ l.length + bv l := by
  show l.foldl (fun a c => a * 256 + c.toNat) (0 * 256 + c.toNat) = _
  rw [bv_acc]; simp
theorem bv_nil : bv [] = 0 := rfl
theorem bv_append (l m : List UInt8) : bv (l ++ m) = bv l * 256 ^ m.length + bv m := by
  unfold bv; rw [List.foldl_append, bv_acc]; rfl
theorem bv_lt (l : List UInt8) : bv l < 256 ^ l.length := by
  induction l with
  | nil => simp [bv_nil]
  | cons c l ih =>
    rw [bv_cons, List.length_cons, Nat.pow_succ]
    have h1 : c.toNat < 256 := c.toNat_lt
    have h2 : c.toNat * 256 ^ l.length + 256 ^ l.length ≤ 256 ^ l.length * 256 := by
      rw [← Nat.succ_mul, Nat.mul_comm]; exact Nat.mul_le_mul_left _ h1
    omega
def tailv (s : ByteArray) (i : Nat) : Nat := bv (s.data.toList.drop (s.size - i))
theorem tailv_lt (s : ByteArray) (i : Nat) (h : i ≤ s.size) : tailv s i < 256 ^ i := by
  have := bv_lt (s.data.toList.drop (s.size - i))
  rw [List.length_drop] at this
  have e : s.data.toList.length - (s.size - i) = i := by
    have : s.data.toList.length = s.size := by simp
    omega
  rwa [e] at this
theorem tailv_succ (s : ByteArray) (i : Nat) (h : i < s.size) : tailv s (i + 1) = tailv s i + (s[s.size - 1 - i]'(by omega)).toNat * 256 ^ i := by
  unfold tailv
  have hl : s.data.toList.length = s.size := by simp
  rw [List.drop_eq_getElem_cons (i := s.size - (i + 1)) (by omega), bv_cons]
  have e1 : s.size - (i + 1) + 1 = s.size - i := by omega
  have e2 : (s.data.toList.drop (s.size - i)).length = i := by rw [List.length_drop]; omega
  rw [e1, e2, Nat.add_comm]
  have e3 : s.data.toList[s.size - (i + 1)]'(by omega) = s[s.size - 1 - i]'(by omega) := by
    show s.data.toList[s.size - (i + 1)]'(by omega) = s.data[s.size - 1 - i]'(by have : s.data.size = s.size := rfl; omega)
    rw [Array.getElem_toList]
    congr 1
    omega
  rw [e3]
theorem tailv_all (s : ByteArray) : tailv s s.size = bv s.data.toList := by unfold tailv; simp
end Go.Proofs.YtaggpodckafbgaaGreatDoor
/- Bytes of numbers: plain. -/
namespace Go.Proofs.YtaggpodckafbgaaGreatDoor
open Go.RowKit
def fm (v : Nat) : List UInt8 := if _h : v = 0 then [] else fm (v / 256) ++ [UInt8.ofNat (v % 256)]
termination_by v
decreasing_by exact Nat.div_lt_self (by omega) (by omega)
theorem fm_zero : fm 0 = [] := by rw [fm]; simp
theorem fm_pos {v : Nat} (h : 0 < v) : fm v = fm (v / 256) ++ [UInt8.ofNat (v % 256)] := by rw [fm, dif_neg (by omega)]
theorem toNat_ofNat8 (n : Nat) (h : n < 256) : (UInt8.ofNat n).toNat = n := by
  simp [UInt8.toNat_ofNat']; omega
theorem bv_fm (v : Nat) : bv (fm v) = v := by
  induction v using Nat.strongRecOn with
  | _ v ih =>
    by_cases h : v = 0
    · subst h; rw [fm_zero, bv_nil]
    · rw [fm_pos (by omega), bv_append, ih (v / 256) (Nat.div_lt_self (by omega) (by omega)), bv_cons, bv_nil, toNat_ofNat8 _ (Nat.mod_lt _ (by omega))]
      simp
      omega
theorem fm_length (v : Nat) : (fm v).length = Dg.len 256 v := by
  induction v using Nat.strongRecOn with
  | _ v ih =>
    by_cases h : v = 0
    · subst h; rw [fm_zero, Dg.len_zero]; rfl
    · rw [fm_pos (by omega), Dg.len_pos (by omega) (by omega), List.length_append, ih (v / 256) (Nat.div_lt_self (by omega) (by omega))]
      rfl
def Lead (l : List UInt8) : Prop := l = [] ∨ l.head? ≠ some 0
theorem bv_pos_of_lead {c : UInt8} {l : List UInt8} (h : c ≠ 0) : 0 < bv (c :: l) := by
  rw [bv_cons]
  have h1 : 0 < c.toNat := by
    rcases Nat.eq_zero_or_pos c.toNat with h2 | h2
    · exact absurd (UInt8.toNat_inj.1 h2) h
    · exact h2
  have : 0 < c.toNat * 256 ^ l.length := Nat.mul_pos h1 (Nat.pow_pos (by omega))
  omega
theorem fm_bv_rev : ∀ m : List UInt8, Lead m.reverse → fm (bv m.reverse) = m.reverse
  | [], _ => by simp [bv_nil, fm_zero]
  | c :: m, h => by
    have e : (c :: m).reverse = m.reverse ++ [c] := by simp
    rw [e] at h ⊢
    have hb : bv (m.reverse ++ [c]) = bv m.reverse * 256 + c.toNat := by rw [bv_append, bv_cons, bv_nil]; simp
    have hc := c.toNat_lt
    have hd : (bv m.reverse * 256 + c.toNat) / 256 = bv m.reverse := by omega
    have hm : (bv m.reverse * 256 + c.toNat) % 256 = c.toNat := by omega
    have hpos : 0 < bv m.reverse * 256 + c.toNat := by
      rw [← hb]
      cases hr : m.reverse with
      | nil =>
        rw [hr] at h
        rcases h with h | h
        · simp at h
        · refine bv_pos_of_lead (l := []) ?_
          intro h2; subst h2; simp at h
      | cons d r =>
        rw [hr] at h
        rcases h with h | h
        · simp at h
        · refine bv_pos_of_lead (l := r ++ [c]) ?_
          intro h2; subst h2; simp at h
    have hlead : Lead m.reverse := by
      cases hr : m.reverse with
      | nil => exact Or.inl rfl
      | cons d r =>
        rw [hr] at h
        rcases h with h | h
        · simp at h
        · right; simpa using h
    rw [hb, fm_pos hpos, hd, hm, fm_bv_rev m hlead]
    congr 2
    exact UInt8.toNat_inj.1 (toNat_ofNat8 _ hc)
theorem fm_bv (l : List UInt8) (h : Lead l) : fm (bv l) = l := by
  have := fm_bv_rev l.reverse (by simpa using h)
  simpa using this
theorem trim_lead (l : List UInt8) : Lead (Lib.trimLeftB l 0) ∧ bv (Lib.trimLeftB l 0) = bv l := by
  unfold Lib.trimLeftB
  induction l with
  | nil => exact ⟨Or.inl rfl, rfl⟩
  | cons c l ih =>
    by_cases h : c = 0
    · subst h
      simp only [List.dropWhile_cons, beq_self_eq_true, if_true]
      exact ⟨ih.1, by rw [ih.2, bv_cons]; simp⟩
    · simp only [List.dropWhile_cons, beq_iff_eq, h, if_false]
      exact ⟨Or.inr (by simpa using h), trivial⟩
theorem trim_fm (l : List UInt8) : Lib.trimLeftB l 0 = fm (bv l) := by
  have h := trim_lead l
  rw [← h.2, fm_bv _ h.1]
def pb (v n : Nat) : List UInt8 := (List.range n).map fun t => UInt8.ofNat (Dg.dg 256 v (n - 1 - t))
theorem pb_length (v n : Nat) : (pb v n).length = n := by simp [pb]
theorem pb_succ (v n : Nat) : pb v (n + 1) = UInt8.ofNat (Dg.dg 256 v n) :: pb v n := by
  unfold pb
  rw [List.range_succ_eq_map, List.map_cons, List.map_map]
  congr 1
  apply List.map_congr_left
  intro t _
  show UInt8.ofNat (Dg.dg 256 v (n + 1 - 1 - (t + 1))) = _
  congr 2; omega
theorem bv_pb (v : Nat) : ∀ n, bv (pb v n) = v % 256 ^ n
  | 0 => by simp [pb, bv_nil, Nat.mod_one]
  | n + 1 => by
    rw [pb_succ, bv_cons, pb_length, bv_pb v n, Dg.mod_succ, toNat_ofNat8 _ (Dg.dg_lt (by omega) _ _), Nat.mul_comm]
    omega
end Go.Proofs.YtaggpodckafbgaaGreatDoor
/- nat.Trim and limbs.form: the walks. -/
namespace Go.Proofs.YtaggpodckafbgaaGreatDoor
open Go.RowKit
theorem Trim_any (s : ByteArray) (w : World) :
    Calls Tryz.prog 23 #[.string s] w fun e w' => e = .returned (.string ⟨(fm (bv s.data.toList)).toArray⟩) ∧ w = w' := by
  have ht := trim_fm s.data.toList
  have HT := Lib.hid ht; clear ht
  go_enter Tryz.func23, Tryz.ntmps23
  go_wp2_with (go_at_call 61; refine (Tryz.strings_TrimLeft_one s 0 (by decide) _).mono ?_; rintro e w' ⟨rfl, rfl⟩; rw [HT.out])
  go_ret
  exact ⟨rfl, rfl⟩
theorem info8 : (Tryz.prog.info? 5).map (fun i => (i.zero, i.size, i.bytes)) = some (some (.int .u8 0), 1, 1) := by kernel_rfl
def Buf (w : World) (B : Nat) (v : Value) (l : List UInt8) : Prop :=
  w.ownsRow B 5 1 v l.length (l.map fun c => Value.int .u8 (c.toNat : Nat))
theorem Buf.own {w : World} {B : Nat} {v : Value} {l : List UInt8} (h : Buf w B v l) : w.ownsRow B 5 1 v l.length (l.map fun c => Value.int .u8 (c.toNat : Nat)) := h
theorem byte_cells (l : List UInt8) : ∀ u ∈ (l.map fun c => Value.int .u8 (c.toNat : Nat)), u.oneCell' = true := by
  intro u hu
  obtain ⟨c, _, rfl⟩ := List.mem_map.1 hu
  rfl
theorem Buf.below {w w' : World} {B : Nat} {v : Value} {l : List UInt8} (h : Buf w B v l) (hb : Below w.heap.size w w') : Buf w' B v l := by
  obtain ⟨h1, h2⟩ := h
  refine ⟨h1, ?_⟩
  rcases h2 with h2 | ⟨g, cap, cur, hv, hg, hh, r⟩
  · exact Or.inl h2
  · exact Or.inr ⟨g, cap, cur, hv, hg, by rw [hb.block g (by have := (Array.getElem?_eq_some_iff.1 hh).1; omega)]; exact hh, r⟩
theorem wpList_append_buf (w : World) {ops : Array Oper} {rest : List Oper} {o : Oper} {a : Act} {Q : Exit → Act → World → Prop} (hgd : o.guard = none) (s x : Operand) (t : TypeId)
    (ho : o.op = .call { callee := .builtin .append, args := #[s, x], argTypes := #[t, t] }) (ht : Tryz.prog.underlying t = some (.slice 5)) (B : Nat) (v : Value) (l : List UInt8) (hs : a.eval s = v) (hb : Buf w B v l)
    (ad : Addr) (m c : Nat) (cs : List UInt8) (hx : a.eval x = .slice (some ad) m c) (hl : cs.length = m) (hnews : ∀ j u, (cs.map fun c => Value.int .u8 (c.toNat : Nat))[j]? = some u → w.cell? (ad.add j) = some u)
    (hlen : l.length + m ≤ 140737488355328) (hbase : B ≤ w.heap.size) (w0 : World) (hw0 : Below B w0 w)
    (h : ∀ v' w', Buf w' B v' (l ++ cs) → Below B w0 w' → (v' = .slice none 0 0 ↔ v = .slice none 0 0 ∧ m = 0) → wpList Tryz.prog ops Q rest (a.put o.dst v') w') : wpList Tryz.prog ops Q (o :: rest) a w := by
  obtain ⟨i, hi, hz0, hz1, hz2⟩ := info_parts info8
  refine wpList_append_own w hgd s x t ho B 5 i (.int .u8 0) 1 1 ht hi hz0 hz1 hz2 rfl (by decide) v l.length _ hs hb ad m c (cs.map fun c => Value.int .u8 (c.toNat : Nat)) hx (by simp [hl]) hnews (byte_cells cs) (by unfold maxLen; omega) (by omega) hbase ?_
  intro v' w' hown hgr hnil
  refine h v' w' ?_ (hw0.grown hgr hbase ?_) hnil
  · unfold Buf
    rw [List.length_append, List.map_append, hl]; exact hown
  · intro k hk
    exact (hb.lt k hk).1
theorem new_cells (w : World) (arr : Array Value) (e : TypeId) : ∀ (j : Nat) (u : Value), arr.toList[j]? = some u → (w.alloc (.cells arr e)).cell? ((⟨w.heap.size, 0, none⟩ : Addr).add j) = some u := by
  intro j u hj
  rw [Addr.add_lit, Nat.zero_add]
  have hh : (w.alloc (.cells arr e)).heap[w.heap.size]? = some (.cells arr e (0, 0)) := heap_alloc_new w _
  simp only [World.cell?, hh, Option.isSome_none, Bool.false_eq_true, if_false]
  rw [← Array.getElem?_toList]; exact hj
set_option maxRecDepth 100000 in
theorem run_string_buf {w : World} {B : Nat} {v : Value} {l : List UInt8} (h : Buf w B v l) :
    (convert 50 9 v).run Tryz.prog w = .ok (.string ⟨l.toArray⟩) w := by
  have hown := h.own
  rcases h.2 with ⟨rfl, h0⟩ | ⟨g, cap, cur, rfl, _⟩
  · have : l = [] := List.eq_nil_of_length_eq_zero h0
    subst this
    exact run_convert_bytes_nil _ _ _ Tryz.underlying50 Tryz.underlying5 0 0 _ Tryz.underlying9
  · have hr := run_convert_bytes_arg w 50 5 Tryz.underlying50 Tryz.underlying5 g 0 l.length cap (l.map fun c => ((c.toNat : Nat) : Int)) (by simp) (fun i hi => by
      rw [Nat.zero_add, hown.cellAt i (by omega), List.getElem?_map, List.getElem?_eq_getElem hi]
      simp [List.getD, List.getElem?_eq_getElem hi]) 9 Tryz.underlying9
    rw [hr]
    congr 2
    unfold strOfNums
    congr 1
    rw [List.map_map]
    congr 1
    refine (List.map_congr_left fun c _ => ?_).trans (List.map_id l)
    simp
end Go.Proofs.YtaggpodckafbgaaGreatDoor
/- Pad: the walk. -/
namespace Go.Proofs.YtaggpodckafbgaaGreatDoor
open Go.RowKit
def nv (s : ByteArray) : Nat := bv s.data.toList
def ret2 (l : List UInt8) (n : Int) : Ending := .returned (.tuple #[.string ⟨l.toArray⟩, .int .i64 n])
theorem str_size (l : List UInt8) : (ByteArray.mk l.toArray).size = l.length := by simp [ByteArray.size]
def PadR (a : ByteArray) (n : Int) : List UInt8 × Int :=
  if n < 0 ∨ 512 < n ∨ n < (Dg.len 256 (nv a) : Int) then ([], 35) else (List.replicate (n.toNat - Dg.len 256 (nv a)) 0 ++ fm (nv a), 0)
theorem repeat_one (c : Nat) : Lib.repeatL [0] c = List.replicate c 0 := by
  induction c with
  | zero => rfl
  | succ c ih => rw [Lib.repeatL, ih]; rfl
theorem str_append (l m : List UInt8) : (ByteArray.mk l.toArray) ++ (ByteArray.mk m.toArray) = ByteArray.mk (l ++ m).toArray := by
  apply ByteArray.ext
  simp
set_option maxRecDepth 100000 in
set_option maxHeartbeats 1600000 in
theorem Pad_any (a : ByteArray) (n : Int) (w : World) (ha : a.size ≤ 9223372036854775807) :
    Calls Tryz.prog 24 #[.string a, .int .i64 n] w fun e w' => e = ret2 (PadR a n).1 (PadR a n).2 ∧ Below w.heap.size w w' := by
  obtain ⟨la, hla⟩ : ∃ l, l = fm (nv a) := ⟨_, rfl⟩
  have HLA := Lib.hid hla
  obtain ⟨sa, hsa⟩ : ∃ s, s = ByteArray.mk la.toArray := ⟨_, rfl⟩
  have ea : fm (bv a.data.toList) = la := HLA.out.symm
  have ca : ∀ w : World, Calls Tryz.prog 23 #[.string a] w fun e w' => e = .returned (.string sa) ∧ w = w' := fun w => by rw [hsa, ← ea]; exact Trim_any a w
  have CA := Lib.hid ca
  have hzl : la.length = Dg.len 256 (nv a) := by rw [hla, fm_length]
  obtain ⟨L, hL⟩ : ∃ L, L = Dg.len 256 (nv a) := ⟨_, rfl⟩
  have hz : sa.size = L := by rw [hsa, hL, ← hzl]; exact str_size la
  have hLs : L ≤ a.size := by
    rw [hL]
    exact (Dg.len_le_iff (by omega) _ _).2 (by
      have h := bv_lt a.data.toList
      have e : a.data.toList.length = a.size := by simp
      rw [e] at h; exact h)
  have HPD := Lib.hid (show PadR a n = if n < 0 ∨ 512 < n ∨ n < (L : Int) then ([], 35) else (List.replicate (n.toNat - L) 0 ++ la, 0) by unfold PadR; rw [hL, hla])
  have HSA := Lib.hid hsa
  clear hla ca ea hsa hzl hL
  by_cases h0 : n < 0
  · have hR : PadR a n = ([], 35) := by rw [HPD.out, if_pos (Or.inl h0)]
    have HR := Lib.hid hR; clear hR
    go_enter Tryz.func24, Tryz.ntmps24
    go_wp2_with (go_at_call 23; refine (CA.out _).mono ?_; rintro e w' ⟨rfl, rfl⟩)
    go_ret2
    exact ⟨by rw [HR.out]; rfl, Below.refl _ _⟩
  · by_cases h5 : 512 < n
    · have hR : PadR a n = ([], 35) := by rw [HPD.out, if_pos (Or.inr (Or.inl h5))]
      have HR := Lib.hid hR; clear hR
      go_enter Tryz.func24, Tryz.ntmps24
      go_wp2_with (go_at_call 23; refine (CA.out _).mono ?_; rintro e w' ⟨rfl, rfl⟩)
      go_ret2
      exact ⟨by rw [HR.out]; rfl, Below.refl _ _⟩
    · by_cases hl : n < (L : Int)
      · have hR : PadR a n = ([], 35) := by rw [HPD.out, if_pos (Or.inr (Or.inr hl))]
        have HR := Lib.hid hR; clear hR
        go_enter Tryz.func24, Tryz.ntmps24
        go_wp2_with (go_at_call 23; refine (CA.out _).mono ?_; rintro e w' ⟨rfl, rfl⟩)
        go_ret2
        exact ⟨by rw [HR.out]; rfl, Below.refl _ _⟩
      · obtain ⟨k, rfl⟩ := Int.eq_ofNat_of_zero_le (by omega : 0 ≤ n)
        have hR : PadR a k = (List.replicate (k - L) 0 ++ la, 0) := by rw [HPD.out, if_neg (by omega)]; simp
        have HR := Lib.hid hR; clear hR
        obtain ⟨d, rfl⟩ : ∃ d, k = L + d := ⟨k - L, by omega⟩
        have hd : (L : Int) + (d : Int) - (L : Int) = (d : Nat) := by omega
        go_enter Tryz.func24, Tryz.ntmps24
        go_wp2_with (go_at_call 23; refine (CA.out _).mono ?_; rintro e w' ⟨rfl, rfl⟩)
        refine (Tryz.strings_Repeat ⟨#[0]⟩ d _ (by omega) (by show 1 * d ≤ _; omega)).mono ?_
        rintro e w2 ⟨rfl, hb2⟩
        obtain ⟨sr, hsr⟩ : ∃ s, s = ByteArray.mk (Lib.repeatL (ByteArray.mk #[0]).data.toList d).toArray := ⟨_, rfl⟩
        rw [← hsr]
        have hzr : sr.size = d := by rw [hsr, str_size, show (ByteArray.mk #[0]).data.toList = [0] from rfl, repeat_one]; simp
        have hsum : sr ++ sa = ⟨(List.replicate d 0 ++ la).toArray⟩ := by
          rw [hsr, HSA.out, str_append, show (ByteArray.mk #[0]).data.toList = [0] from rfl, repeat_one]
        have HSUM := Lib.hid hsum
        have hcat : ∀ w : World, (Op.stringOp .add sr sa).run Tryz.prog w = .ok (.string (sr ++ sa)) w := fun w => run_string_add_sum w sr sa (by omega)
        clear hsum hsr
        go_wp2_with fail
        go_ret2
        exact ⟨by rw [HR.out, HSUM.out, Nat.add_sub_cancel_left]; rfl, hb2⟩
end Go.Proofs.YtaggpodckafbgaaGreatDoor
