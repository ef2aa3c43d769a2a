/- Told ToldAll Taken Pub Pub2, in one text. -/
import Derived.Test.YtjkjlbchbbpmaaaGreatDoorZN2
import Derived.Test.YtjkjlbchbbpmaaaGreatDoorChecked
import Derived.LaidEql
import Derived.Stop.Asserts
import Derived.RowKitTokens
/- errors.Is at this package's errors, told, answered: the walks. -/
namespace Go.Proofs.YtjkjlbchbbpmaaaGreatDoor
open Go.RowKit Go.Extern.Stop Go.Stop Go.Extern

section
variable {P : Program} (w : World)
theorem run_equalIn_iface_str (d : Nat) {ti tn : TypeId} {ms : Array (String × TypeId)} {i : TypeInfo} (a b : ByteArray)
    (hi : P.underlying ti = some (.interface ms)) (hn : P.underlying tn = some .string) (hinfo : P.info? tn = some i) (hcomp : i.comparable = true) :
    (Op.equalIn (d + 2) ti (.iface tn (.string a)) (.iface tn (.string b))).run P w = .ok (a.toList == b.toList) w := by
  simp [Op.equalIn, run_underlying hi, run_underlying hn, typeInfo, hinfo, hcomp, beq_toListBytes]
/-- '==' of two errors of one string type: as the strings are. -/
theorem run_eql_iface_str {ti tn : TypeId} {ms : Array (String × TypeId)} {i : TypeInfo} (a b : ByteArray)
    (hi : P.underlying ti = some (.interface ms)) (hn : P.underlying tn = some .string) (hinfo : P.info? tn = some i) (hcomp : i.comparable = true) :
    (binOp .eql ti (.iface tn (.string a)) (.iface tn (.string b))).run P w = .ok (.bool (a.toList == b.toList)) w := by
  simp only [binOp]
  simp [Op.equal, Op.maxDepth, run_equalIn_iface_str w 9998 a b hi hn hinfo hcomp]
end

theorem isComp : (Tryz.prog.info? 104).map (·.comparable) = some true := by kernel_rfl
theorem noIs (v : Value) (xT : TypeId) (w : World) : (Instr.typeAssert (.iface 104 v) xT 152 true).run Tryz.prog w = .ok (.tuple #[.nilIface, .bool false]) w := run_typeAssert_lacksB Tryz.underlying152 (by kernel_rfl) (by kernel_rfl) v xT w
theorem noUnwrap (v : Value) (xT : TypeId) (w : World) : (Instr.typeAssert (.iface 104 v) xT 155 true).run Tryz.prog w = .ok (.tuple #[.nilIface, .bool false]) w := run_typeAssert_lacksB Tryz.underlying155 (by kernel_rfl) (by kernel_rfl) v xT w
theorem noUnwraps (v : Value) (xT : TypeId) (w : World) : (Instr.typeAssert (.iface 104 v) xT 157 true).run Tryz.prog w = .ok (.tuple #[.nilIface, .bool false]) w := run_typeAssert_lacksB Tryz.underlying157 (by kernel_rfl) (by kernel_rfl) v xT w
theorem callTypeOf (v : Value) (w : World) : (callFunc 82 #[.iface 104 v]).run Tryz.prog w = .ok (.value (.iface 150 (.agg #[.pointer (some ⟨3, 104, none⟩)]))) w := by kernel_rfl
theorem isMethodComparable (v : Value) (w : World) : (Go.method 325 150 v "Comparable").run Tryz.prog w = .ok (173, v) w := by kernel_rfl
theorem callComparable (w : World) : (callFunc 173 #[.agg #[.pointer (some ⟨3, 104, none⟩)]]).run Tryz.prog w = .ok (.value (.bool true)) w := by kernel_rfl

set_option maxRecDepth 100000 in
theorem is_any (a b : ByteArray) (w : World) :
    Calls Tryz.prog 48 #[.iface 104 (.string a), .iface 104 (.string b)] w fun e w' => e = .returned (.bool (a.toList == b.toList)) ∧ w = w' := by
  obtain ⟨i, hi, hcmp⟩ := Option.map_eq_some_iff.1 isComp
  have tT := callTypeOf
  have cT := callComparable
  have mR := isMethodComparable
  have nE := noIs
  have uE := noUnwrap
  have vE := noUnwraps
  have heq := run_eql_iface_str (P := Tryz.prog) w a b Tryz.underlying67 Tryz.underlying104 hi hcmp
  obtain ⟨r, hr⟩ : ∃ r, r = (a.toList == b.toList) := ⟨_, rfl⟩
  rw [← hr] at heq ⊢
  clear hr
  go_enter Tryz.func48, Tryz.ntmps48
  go_wp2
  refine wp_loop_rounds 1 ?_
  rw [rounds_succ]
  cases r
  · go_wp2
    go_ret
    exact ⟨rfl, rfl⟩
  · go_wp2
    go_ret
    exact ⟨rfl, rfl⟩
end Go.Proofs.YtjkjlbchbbpmaaaGreatDoor
/- told and answered: the walks. (Printed by gen_told.py.) -/
namespace Go.Proofs.YtjkjlbchbbpmaaaGreatDoor
open Go.RowKit

theorem is_same (a : ByteArray) (w : World) :
    Calls Tryz.prog 48 #[.iface 104 (.string a), .iface 104 (.string a)] w fun e w' => e = .returned (.bool true) ∧ w = w' :=
  (is_any a a w).mono fun _ _ ⟨he, hw⟩ => ⟨by rw [he]; simp, hw⟩
theorem is_other (a b : ByteArray) (w : World) (h : (a.data == b.data) = false) :
    Calls Tryz.prog 48 #[.iface 104 (.string a), .iface 104 (.string b)] w fun e w' => e = .returned (.bool false) ∧ w = w' :=
  (is_any a b w).mono fun _ _ ⟨he, hw⟩ => ⟨by
    have hne : ¬ a.toList = b.toList := by
      rw [ByteArray.toList_eq, ByteArray.toList_eq]
      intro h1
      have := Array.toList_inj.1 h1
      rw [this] at h
      simp at h
    rw [he]; simp [hne], hw⟩

set_option maxRecDepth 100000 in
theorem toldLong (w : World) : Calls Tryz.prog 41 #[errLong] w fun e w' => e = .returned (.int .i64 30) ∧ w = w' := by
  unfold errLong
  go_enter Tryz.func41, Tryz.ntmps41
  go_wp2_with fail
  refine (is_same ⟨#[116, 111, 111, 32, 108, 111, 110, 103]⟩ _).mono ?_
  rintro e w' ⟨rfl, rfl⟩
  go_wp2_with fail
  go_ret
  exact ⟨rfl, rfl⟩

theorem answeredLong (w : World) : Calls Tryz.prog 56 #[.slice none 0 0, errLong] w fun e w' => e = .returned (.tuple #[.string ⟨#[]⟩, .int .i64 30]) ∧ w = w' := by
  have ht := toldLong
  unfold errLong at ht ⊢
  have HT := Lib.hid ht; clear ht
  go_enter Tryz.func56, Tryz.ntmps56
  go_wp2_with (go_at_call 41; refine (HT.out _).mono ?_; rintro e w' ⟨rfl, rfl⟩)
  go_ret2
  exact ⟨rfl, rfl⟩

set_option maxRecDepth 100000 in
theorem toldZero (w : World) : Calls Tryz.prog 41 #[errZero] w fun e w' => e = .returned (.int .i64 31) ∧ w = w' := by
  unfold errZero
  go_enter Tryz.func41, Tryz.ntmps41
  go_wp2_with fail
  refine (is_other ⟨#[122, 101, 114, 111]⟩ ⟨#[116, 111, 111, 32, 108, 111, 110, 103]⟩ _ (by decide)).mono ?_
  rintro e w' ⟨rfl, rfl⟩
  go_wp2_with fail
  refine (is_same ⟨#[122, 101, 114, 111]⟩ _).mono ?_
  rintro e w' ⟨rfl, rfl⟩
  go_wp2_with fail
  go_ret
  exact ⟨rfl, rfl⟩

theorem answeredZero (w : World) : Calls Tryz.prog 56 #[.slice none 0 0, errZero] w fun e w' => e = .returned (.tuple #[.string ⟨#[]⟩, .int .i64 31]) ∧ w = w' := by
  have ht := toldZero
  unfold errZero at ht ⊢
  have HT := Lib.hid ht; clear ht
  go_enter Tryz.func56, Tryz.ntmps56
  go_wp2_with (go_at_call 41; refine (HT.out _).mono ?_; rintro e w' ⟨rfl, rfl⟩)
  go_ret2
  exact ⟨rfl, rfl⟩

set_option maxRecDepth 100000 in
theorem toldBelow (w : World) : Calls Tryz.prog 41 #[errBelow] w fun e w' => e = .returned (.int .i64 32) ∧ w = w' := by
  unfold errBelow
  go_enter Tryz.func41, Tryz.ntmps41
  go_wp2_with fail
  refine (is_other ⟨#[98, 101, 108, 111, 119, 32, 122, 101, 114, 111]⟩ ⟨#[116, 111, 111, 32, 108, 111, 110, 103]⟩ _ (by decide)).mono ?_
  rintro e w' ⟨rfl, rfl⟩
  go_wp2_with fail
  refine (is_other ⟨#[98, 101, 108, 111, 119, 32, 122, 101, 114, 111]⟩ ⟨#[122, 101, 114, 111]⟩ _ (by decide)).mono ?_
  rintro e w' ⟨rfl, rfl⟩
  go_wp2_with fail
  refine (is_same ⟨#[98, 101, 108, 111, 119, 32, 122, 101, 114, 111]⟩ _).mono ?_
  rintro e w' ⟨rfl, rfl⟩
  go_wp2_with fail
  go_ret
  exact ⟨rfl, rfl⟩

theorem answeredBelow (w : World) : Calls Tryz.prog 56 #[.slice none 0 0, errBelow] w fun e w' => e = .returned (.tuple #[.string ⟨#[]⟩, .int .i64 32]) ∧ w = w' := by
  have ht := toldBelow
  unfold errBelow at ht ⊢
  have HT := Lib.hid ht; clear ht
  go_enter Tryz.func56, Tryz.ntmps56
  go_wp2_with (go_at_call 41; refine (HT.out _).mono ?_; rintro e w' ⟨rfl, rfl⟩)
  go_ret2
  exact ⟨rfl, rfl⟩

set_option maxRecDepth 100000 in
theorem toldNone (w : World) : Calls Tryz.prog 41 #[errNone] w fun e w' => e = .returned (.int .i64 33) ∧ w = w' := by
  unfold errNone
  go_enter Tryz.func41, Tryz.ntmps41
  go_wp2_with fail
  refine (is_other ⟨#[110, 111, 32, 105, 110, 118, 101, 114, 115, 101]⟩ ⟨#[116, 111, 111, 32, 108, 111, 110, 103]⟩ _ (by decide)).mono ?_
  rintro e w' ⟨rfl, rfl⟩
  go_wp2_with fail
  refine (is_other ⟨#[110, 111, 32, 105, 110, 118, 101, 114, 115, 101]⟩ ⟨#[122, 101, 114, 111]⟩ _ (by decide)).mono ?_
  rintro e w' ⟨rfl, rfl⟩
  go_wp2_with fail
  refine (is_other ⟨#[110, 111, 32, 105, 110, 118, 101, 114, 115, 101]⟩ ⟨#[98, 101, 108, 111, 119, 32, 122, 101, 114, 111]⟩ _ (by decide)).mono ?_
  rintro e w' ⟨rfl, rfl⟩
  go_wp2_with fail
  refine (is_same ⟨#[110, 111, 32, 105, 110, 118, 101, 114, 115, 101]⟩ _).mono ?_
  rintro e w' ⟨rfl, rfl⟩
  go_wp2_with fail
  go_ret
  exact ⟨rfl, rfl⟩

theorem answeredNone (w : World) : Calls Tryz.prog 56 #[.slice none 0 0, errNone] w fun e w' => e = .returned (.tuple #[.string ⟨#[]⟩, .int .i64 33]) ∧ w = w' := by
  have ht := toldNone
  unfold errNone at ht ⊢
  have HT := Lib.hid ht; clear ht
  go_enter Tryz.func56, Tryz.ntmps56
  go_wp2_with (go_at_call 41; refine (HT.out _).mono ?_; rintro e w' ⟨rfl, rfl⟩)
  go_ret2
  exact ⟨rfl, rfl⟩

set_option maxRecDepth 100000 in
theorem toldEven (w : World) : Calls Tryz.prog 41 #[errEven] w fun e w' => e = .returned (.int .i64 34) ∧ w = w' := by
  unfold errEven
  go_enter Tryz.func41, Tryz.ntmps41
  go_wp2_with fail
  refine (is_other ⟨#[101, 118, 101, 110]⟩ ⟨#[116, 111, 111, 32, 108, 111, 110, 103]⟩ _ (by decide)).mono ?_
  rintro e w' ⟨rfl, rfl⟩
  go_wp2_with fail
  refine (is_other ⟨#[101, 118, 101, 110]⟩ ⟨#[122, 101, 114, 111]⟩ _ (by decide)).mono ?_
  rintro e w' ⟨rfl, rfl⟩
  go_wp2_with fail
  refine (is_other ⟨#[101, 118, 101, 110]⟩ ⟨#[98, 101, 108, 111, 119, 32, 122, 101, 114, 111]⟩ _ (by decide)).mono ?_
  rintro e w' ⟨rfl, rfl⟩
  go_wp2_with fail
  refine (is_other ⟨#[101, 118, 101, 110]⟩ ⟨#[110, 111, 32, 105, 110, 118, 101, 114, 115, 101]⟩ _ (by decide)).mono ?_
  rintro e w' ⟨rfl, rfl⟩
  go_wp2_with fail
  refine (is_same ⟨#[101, 118, 101, 110]⟩ _).mono ?_
  rintro e w' ⟨rfl, rfl⟩
  go_wp2_with fail
  go_ret
  exact ⟨rfl, rfl⟩

theorem answeredEven (w : World) : Calls Tryz.prog 56 #[.slice none 0 0, errEven] w fun e w' => e = .returned (.tuple #[.string ⟨#[]⟩, .int .i64 34]) ∧ w = w' := by
  have ht := toldEven
  unfold errEven at ht ⊢
  have HT := Lib.hid ht; clear ht
  go_enter Tryz.func56, Tryz.ntmps56
  go_wp2_with (go_at_call 41; refine (HT.out _).mono ?_; rintro e w' ⟨rfl, rfl⟩)
  go_ret2
  exact ⟨rfl, rfl⟩

theorem answered_ok (ao : Option Addr) (n c v : Nat) (w : World) (ha : Num w ao n c v) (hn : n ≤ 10000000) :
    Calls Tryz.prog 56 #[.slice ao n c, .nilIface] w fun e w' => e = .returned (.tuple #[.string ⟨(fm v).toArray⟩, .int .i64 0]) ∧ Below w.heap.size w w' := by
  go_enter Tryz.func56, Tryz.ntmps56
  go_wp2_with (go_at_call 43; refine (form_any ao n c v _ ha hn).mono ?_; rintro e w' ⟨rfl, hbel⟩)
  go_ret2
  exact ⟨rfl, hbel⟩
end Go.Proofs.YtjkjlbchbbpmaaaGreatDoor
/- taken: the walk. -/
namespace Go.Proofs.YtjkjlbchbbpmaaaGreatDoor
open Go.RowKit

/-- A slice's three parts. -/
structure Sl where
  a : Option Addr
  n : Nat
  c : Nat
def Sl.v (s : Sl) : Value := .slice s.a s.n s.c

/-- The values of a row of numbers' slices. -/
structure Nums (w : World) (n : Nat) (vals : List Sl) (sf : Nat → ByteArray) : Prop where
  len : vals.length = n
  num : ∀ (i : Nat) (s : Sl), vals[i]? = some s → Num w s.a s.n s.c (bv (sf i).data.toList)

theorem Nums.below {w w' : World} {n : Nat} {vals : List Sl} {sf : Nat → ByteArray} (h : Nums w n vals sf) (hb : Below w.heap.size w w') : Nums w' n vals sf :=
  ⟨h.len, fun i s hi => (h.num i s hi).below hb (Nat.le_refl _)⟩

/-- What taken answers. -/
def TakenPost (md : Bool) (n : Nat) (sf : Nat → ByteArray) (w : World) (e : Ending) (w' : World) : Prop :=
  Below w.heap.size w w' ∧
    (((∃ i, i < n ∧ 512 < (sf i).size) ∧ e = .returned (.tuple #[.slice none 0 0, errLong])) ∨
     ((∀ i, i < n → (sf i).size ≤ 512) ∧ md = true ∧ bv (sf (n - 1)).data.toList = 0 ∧ e = .returned (.tuple #[.slice none 0 0, errZero])) ∨
     ((∀ i, i < n → (sf i).size ≤ 512) ∧ (md = true → 0 < bv (sf (n - 1)).data.toList) ∧ ∃ g cap vals, e = .returned (.tuple #[.slice (some ⟨g, 0, none⟩) n cap, .nilIface]) ∧ Nums w' n vals sf ∧ ∀ (i : Nat) (s : Sl), vals[i]? = some s → w'.cell? ⟨g, i, none⟩ = some s.v))

theorem infoL : (Tryz.prog.info? 72).map (fun i => (i.zero, i.size, i.bytes)) = some (some (.slice none 0 0), 1, 24) := by kernel_rfl

theorem ownsRow_below {w w' : World} {B : Nat} {e : TypeId} {size : Nat} {v : Value} {n : Nat} {xs : List Value} (h : w.ownsRow B e size v n xs) (hb : Below w.heap.size w w') : w'.ownsRow B e size v n xs := by
  obtain ⟨h1, h2⟩ := h
  refine ⟨h1, ?_⟩
  rcases h2 with h2 | ⟨g, cap, cur, hv, hg, hh, r⟩
  · exact Or.inl h2
  · exact Or.inr ⟨g, cap, cur, hv, hg, by rw [hb.block g (by have := (Array.getElem?_eq_some_iff.1 hh).1; omega)]; exact hh, r⟩

/-- A row of slices lies in another block than a number's digits. -/
theorem row_apart {w : World} {B : Nat} {e : TypeId} {v : Value} {k : Nat} {s0 : Sl} {r : List Value} (h : w.ownsRow B e 1 v k (s0.v :: r)) {ao : Option Addr} {n c a : Nat} (hn : Num w ao n c a) (h0 : off ao = 0) :
    n = 0 ∨ some (blk ao) ≠ v.ownBlock := by
  rcases Nat.eq_zero_or_pos n with hz | hp
  · exact Or.inl hz
  · right
    intro he
    have hc := hn.rd.cell 0 hp
    rw [h0] at hc
    have hlen := h.1
    rcases h.2 with ⟨rfl, hk⟩ | ⟨g, cap, cur, rfl, _⟩
    · simp [Value.ownBlock] at he
    · simp only [Value.ownBlock, Option.some.injEq] at he
      rw [he] at hc
      simp only [List.length_cons] at hlen
      have h2 := h.cellAt 0 (by omega)
      rw [show (0 + 0 : Nat) = 0 from rfl] at hc
      rw [hc] at h2
      simp [Sl.v] at h2

/-- Numbers are kept where such a row is written. -/
theorem Num.kept {w w' : World} {B : Nat} {e : TypeId} {v : Value} {k : Nat} {vals : List Sl} (h : w.ownsRow B e 1 v k (vals.map Sl.v)) (hnil : vals = [] → v = .slice none 0 0) (hg : w.grownBy w' v.ownBlock) {ao : Option Addr} {n c a : Nat} (hn : Num w ao n c a) (h0 : off ao = 0) : Num w' ao n c a := by
  refine ⟨hn.len, hn.rd.sh, hn.rd.le, hn.rd.cm, fun j hj => hg.cell (hn.rd.cell j hj) ?_⟩
  cases vals with
  | nil =>
    rw [hnil rfl]
    simp [Value.ownBlock]
  | cons s0 r =>
    rcases row_apart h hn h0 with h1 | h1
    · omega
    · exact h1

set_option maxRecDepth 100000 in
set_option maxHeartbeats 800000 in
theorem taken_any (md : Bool) (b n : Nat) (sf : Nat → ByteArray) (w : World) (hn : 0 < n) (hn3 : n ≤ 3) (hc : ∀ i, i < n → w.cell? ⟨b, i, none⟩ = some (.string (sf i))) (hsz : ∀ i, i < n → (sf i).size ≤ 9223372036854775807) :
    Calls Tryz.prog 40 #[.bool md, .slice (some ⟨b, 0, none⟩) n n] w (TakenPost md n sf w) := by
  have hbl : b < w.heap.size := World.block_lt_of_cell? w ⟨b, 0, none⟩ (hc 0 hn)
  obtain ⟨iL, hiL, hz0, hz1, hz2⟩ := info_parts infoL
  have HC := Lib.hid hc; have HSZ := Lib.hid hsz; clear hc hsz
  go_enter Tryz.func40, Tryz.ntmps40
  go_wp2_with fail
  go_loopw [6, 11] (fun ov iv wr => ∃ (k : Nat) (vals : List Sl), k ≤ n ∧ iv = .int .i64 k ∧ (∀ i, i < k → (sf i).size ≤ 512) ∧ (∀ s ∈ vals, off s.a = 0) ∧ (vals = [] → ov = .slice none 0 0) ∧ wr.ownsRow w.heap.size 72 1 ov k (vals.map Sl.v) ∧ Nums wr k vals sf ∧ Below w.heap.size w wr) (fun _ iv _ => n - (intOf iv).toNat)
  case atStart => exact ⟨0, [], Nat.zero_le _, rfl, fun i h => absurd h (Nat.not_lt_zero i), by simp, fun _ => rfl, World.ownsRow_nil _ _ _ _, ⟨rfl, fun i s h => by simp at h⟩, Below.refl _ _⟩
  case round =>
    obtain ⟨k, vals, hk, rfl, h512, hoff, hnil, hown, hnums, hbel⟩ := hrel
    have H512 := Lib.hid h512; have HOFF := Lib.hid hoff; have HNIL := Lib.hid hnil; clear h512 hoff hnil
    have hszz := hbel.size
    by_cases hkn : k < n
    · have hck : wr.cell? ⟨b, k, none⟩ = some (.string (sf k)) := (hbel.cell (p := ⟨b, k, none⟩) hbl).trans (HC.out k hkn)
      have hsk := HSZ.out k hkn
      by_cases hlong : 512 < (sf k).size
      · go_wp2_with fail
        go_ret2
        exact ⟨hbel, Or.inl ⟨⟨k, hkn, hlong⟩, rfl⟩⟩
      · have hle : (sf k).size ≤ 512 := by omega
        go_wp2_with (first
          | (go_at_call 71; refine (read_any (sf k) _ (by omega)).mono ?_; rintro e w2 ⟨ro, rn, rc, rfl, hnum, hb2, hro⟩; have HRO := Lib.hid hro; clear hro; have hown2 := ownsRow_below hown hb2; have hsz2 := hb2.size)
          | (at_builtin; refine wpList_append_own _ rfl (.tmp 19) (.tmp 22) _ rfl w.heap.size 72 iL (.slice none 0 0) 1 24 Tryz.underlying65 hiL hz0 hz1 hz2 rfl (by decide) _ k (vals.map Sl.v) rfl (hown2.alloc _) ⟨w2.heap.size, 0, none⟩ 1 1 [Sl.v ⟨ro, rn, rc⟩] rfl rfl ?h1 (by simp [Sl.v, Value.oneCell']) (by unfold maxLen; omega) (by omega) (by simp; omega) ?_; rotate_left; intro v' w3 hown3 hgr3 hnil3))
        case h1 => exact new_cells _ _ _
        have hnums3 : Nums w3 (k + 1) (vals ++ [⟨ro, rn, rc⟩]) sf := by
          refine ⟨by simp [hnums.len], fun i s hi => ?_⟩
          have hb2a : Below w2.heap.size w2 (w2.alloc (.cells #[.slice ro rn rc] 72)) := (Below.refl _ _).alloc (Nat.le_refl _) _
          rcases Nat.lt_or_ge i vals.length with h | h
          · rw [List.getElem?_append_left h] at hi
            exact Num.kept (hown2.alloc _) HNIL.out hgr3 (((hnums.num i s hi).below hb2 (Nat.le_refl _)).below hb2a (Nat.le_refl _)) (HOFF.out s (List.mem_of_getElem? hi))
          · rw [List.getElem?_append_right h] at hi
            have h0 : i - vals.length = 0 := by
              rcases Nat.eq_zero_or_pos (i - vals.length) with h | h
              · exact h
              · rw [List.getElem?_eq_none (by simp only [List.length_cons, List.length_nil]; omega)] at hi; simp at hi
            rw [h0] at hi
            simp only [List.getElem?_cons_zero, Option.some.injEq] at hi
            subst hi
            have hik : i = k := by have := hnums.len; omega
            subst hik
            exact Num.kept (hown2.alloc _) HNIL.out hgr3 (hnum.below hb2a (Nat.le_refl _)) HRO.out
        go_roundw
        case rel =>
          refine ⟨k + 1, vals ++ [⟨ro, rn, rc⟩], by omega, by go_num, fun i hi => ?_, fun s hs => ?_, fun h => by simp at h, by rw [List.map_append]; exact hown3, hnums3, ?_⟩
          · by_cases h : i < k
            · exact H512.out i h
            · obtain rfl : i = k := by omega
              exact hle
          · rcases List.mem_append.1 hs with h | h
            · exact HOFF.out s h
            · rw [List.mem_singleton.1 h]; exact HRO.out
          · exact ((hbel.trans (hb2.mono hszz)).alloc (by omega) _).grown hgr3 (by simp; omega) (fun g hg => (hown2.lt g hg).1)
        case measure => simp [intOf]; omega
    · obtain rfl : k = n := by omega
      have hsh : ∃ g cap, u6 = .slice (some ⟨g, 0, none⟩) k cap := by
        rcases hown.2 with ⟨_, h0⟩ | ⟨g, cap, cur, hv, _⟩
        · omega
        · exact ⟨g, cap, hv⟩
      obtain ⟨g, cap, rfl⟩ := hsh
      have hlen := hnums.len
      have hcell : ∀ (i : Nat) (s : Sl), vals[i]? = some s → wr.cell? ⟨g, i, none⟩ = some s.v := fun i s hi => by
        have hik : i < k := by rw [← hlen]; exact (List.getElem?_eq_some_iff.1 hi).1
        rw [hown.cellAt i (by omega), List.getElem?_map, hi]; rfl
      obtain ⟨s, hs⟩ : ∃ s, vals[k - 1]? = some s := ⟨_, List.getElem?_eq_getElem (by omega)⟩
      have hcs : wr.cell? ⟨g, k - 1, none⟩ = some (.slice s.a s.n s.c) := hcell (k - 1) s hs
      have hnum := hnums.num (k - 1) s hs
      have hz : s.n = 0 ↔ bv (sf (k - 1)).data.toList = 0 := by
        rw [hnum.len]
        constructor
        · exact Dg.eq_zero_of_len LB2
        · intro h; rw [h, Dg.len_zero]
      obtain ⟨sa, sn, sc⟩ := s
      simp only at hcs hz
      have HCELL := Lib.hid hcell; have HZ := Lib.hid hz; have HLEN := Lib.hid hlen; have HS := Lib.hid hs
      clear hcell hz hlen hs
      cases md with
      | false =>
        go_wp2_with fail
        go_ret2
        exact ⟨hbel, Or.inr (Or.inr ⟨H512.out, fun h => by simp at h, g, cap, vals, rfl, hnums, HCELL.out⟩)⟩
      | true =>
        by_cases h0 : sn = 0
        · have hb0 : ((sn : Int) == 0) = true := by simp [h0]
          go_wp2_with fail
          go_ret2
          exact ⟨hbel, Or.inr (Or.inl ⟨H512.out, rfl, HZ.out.1 h0, rfl⟩)⟩
        · have hb0 : ((sn : Int) == 0) = false := by simp [h0]
          go_wp2_with fail
          go_ret2
          exact ⟨hbel, Or.inr (Or.inr ⟨H512.out, fun _ => Nat.pos_of_ne_zero fun h => h0 (HZ.out.2 h), g, cap, vals, rfl, hnums, HCELL.out⟩)⟩
end Go.Proofs.YtjkjlbchbbpmaaaGreatDoor
/- Add, Sub, Mul, Div: the walks. -/
namespace Go.Proofs.YtjkjlbchbbpmaaaGreatDoor
open Go.RowKit

/-- A string's number. -/
def nv (s : ByteArray) : Nat := bv s.data.toList
/-- Two results: a text and an error's number. -/
def ret2 (l : List UInt8) (n : Int) : Ending := .returned (.tuple #[.string ⟨l.toArray⟩, .int .i64 n])

theorem nv_lt (s : ByteArray) (k : Nat) (h : s.size ≤ 4 * k) : nv s < LB ^ k := by
  rw [show LB = 256 ^ 4 from rfl, ← Nat.pow_mul]
  refine Nat.lt_of_lt_of_le (bv_lt _) (Nat.pow_le_pow_right (by omega) ?_)
  have : s.data.toList.length = s.size := by simp
  omega
theorem num_len_le {w : World} {ao : Option Addr} {n c v k : Nat} (h : Num w ao n c v) (hv : v < LB ^ k) : n ≤ k := by
  rw [h.len]; exact (Dg.len_le_iff LB2 v k).2 hv
theorem num_size {w : World} {ao : Option Addr} {n c : Nat} {s : ByteArray} (h : Num w ao n c (bv s.data.toList)) (hs : s.size ≤ 512) : n ≤ 128 :=
  num_len_le h (nv_lt s 128 hs)

theorem two_cells (w : World) (x y : Value) (e : TypeId) (b : Nat) (hb : b = w.heap.size) : (w.alloc (.cells #[x, y] e)).cell? ⟨b, 0, none⟩ = some x ∧ (w.alloc (.cells #[x, y] e)).cell? ⟨b, 1, none⟩ = some y := by
  subst hb
  have h := new_cells w #[x, y] e
  exact ⟨h 0 x rfl, h 1 y rfl⟩


theorem sum_lt {a b : Nat} (ha : a < LB ^ 128) (hb : b < LB ^ 128) : a + b < LB ^ 200 := by
  have h : LB ^ 128 * 2 ≤ LB ^ 200 := by
    have h1 : LB ^ 128 * LB ^ 72 = LB ^ 200 := by rw [← Nat.pow_add]
    rw [← h1]
    refine Nat.mul_le_mul_left _ ?_
    have h2 : LB ^ 1 ≤ LB ^ 72 := Nat.pow_le_pow_right LBpos (by omega)
    rw [Nat.pow_one] at h2
    exact Nat.le_trans LB2 h2
  omega
theorem prod_lt {a b : Nat} (ha : a < LB ^ 128) (hb : b < LB ^ 128) : a * b < LB ^ 256 := by
  have h1 : LB ^ 128 * LB ^ 128 = LB ^ 256 := by rw [← Nat.pow_add]
  rw [← h1]
  exact Nat.mul_lt_mul'' ha hb

/-- What Add answers. -/
def addR (a b : ByteArray) : List UInt8 × Int := if 512 < a.size ∨ 512 < b.size then ([], 30) else (fm (nv a + nv b), 0)

set_option maxRecDepth 100000 in
set_option maxHeartbeats 1600000 in
theorem Add_any (a b : ByteArray) (w : World) (ha : a.size ≤ 9223372036854775807) (hb : b.size ≤ 9223372036854775807) :
    Calls Tryz.prog 45 #[.string a, .string b] w fun e w' => e = ret2 (addR a b).1 (addR a b).2 ∧ Below w.heap.size w w' := by
  obtain ⟨sf, hsf⟩ : ∃ sf : Nat → ByteArray, sf = fun i => if i = 0 then a else b := ⟨_, rfl⟩
  have h0 : sf 0 = a := by rw [hsf]; rfl
  have h1 : sf 1 = b := by rw [hsf]; rfl
  have H0 := Lib.hid h0; have H1 := Lib.hid h1
  obtain ⟨c0, c1⟩ := two_cells w (.string a) (.string b) 9 w.heap.size rfl
  have hc : ∀ i, i < 2 → (w.alloc (.cells #[.string a, .string b] 9)).cell? ⟨w.heap.size, i, none⟩ = some (.string (sf i)) := fun i hi => by
    match i, hi with
    | 0, _ => rw [h0]; exact c0
    | 1, _ => rw [h1]; exact c1
  have hs : ∀ i, i < 2 → (sf i).size ≤ 9223372036854775807 := fun i hi => by
    match i, hi with
    | 0, _ => rw [h0]; exact ha
    | 1, _ => rw [h1]; exact hb
  have HC := Lib.hid hc; have HS := Lib.hid hs
  clear hsf h0 h1 c0 c1 hc hs
  go_enter Tryz.func45, Tryz.ntmps45
  go_wp2_with fail
  refine (taken_any false _ 2 sf _ (by omega) (by omega) HC.out HS.out).mono ?_
  rintro e w1 ⟨hb1, h⟩
  have hbel : Below w.heap.size w w1 := ((Below.refl _ _).alloc (Nat.le_refl _) _).trans (hb1.mono (by simp))
  rcases h with ⟨⟨i, hi, hlong⟩, rfl⟩ | ⟨h512, hf, hz, rfl⟩ | ⟨h512, hnz, g, cap, vals, rfl, hnums, hcell⟩
  · have hor : 512 < a.size ∨ 512 < b.size := by
      match i, hi with
      | 0, _ => left; rw [← H0.out]; exact hlong
      | 1, _ => right; rw [← H1.out]; exact hlong
    have hR : addR a b = ([], 30) := by unfold addR; rw [if_pos hor]
    have HR := Lib.hid hR
    clear hor hR hlong
    unfold errLong
    go_wp2_with (go_at_call 56; refine (answeredLong _).mono ?_; rintro e w2 ⟨rfl, rfl⟩)
    go_ret2
    exact ⟨by rw [HR.out]; rfl, hbel⟩
  · simp at hf
  · have hno : ¬ (512 < a.size ∨ 512 < b.size) := by
      have g0 := h512 0 (by omega); have g1 := h512 1 (by omega)
      rw [H0.out] at g0; rw [H1.out] at g1
      omega
    have HN := Lib.hid hno
    clear hno
    obtain ⟨s0, hs0⟩ : ∃ s, vals[0]? = some s := ⟨_, List.getElem?_eq_getElem (by rw [hnums.len]; omega)⟩
    obtain ⟨s1, hs1⟩ : ∃ s, vals[1]? = some s := ⟨_, List.getElem?_eq_getElem (by rw [hnums.len]; omega)⟩
    have hn0 : Num w1 s0.a s0.n s0.c (nv a) := by have h := hnums.num 0 s0 hs0; rw [H0.out] at h; exact h
    have hn1 : Num w1 s1.a s1.n s1.c (nv b) := by have h := hnums.num 1 s1 hs1; rw [H1.out] at h; exact h
    have hl0 : s0.n ≤ 128 := num_size hn0 (by have := HN.out; omega)
    have hl1 : s1.n ≤ 128 := num_size hn1 (by have := HN.out; omega)
    have hv0 : nv a < LB ^ 128 := nv_lt a 128 (by have := HN.out; omega)
    have hv1 : nv b < LB ^ 128 := nv_lt b 128 (by have := HN.out; omega)
    have HV0 := Lib.hid hv0; have HV1 := Lib.hid hv1
    have c0 : w1.cell? ⟨g, 0, none⟩ = some (.slice s0.a s0.n s0.c) := hcell 0 s0 hs0
    have c1 : w1.cell? ⟨g, 1, none⟩ = some (.slice s1.a s1.n s1.c) := hcell 1 s1 hs1
    clear hcell hnums h512 hv0 hv1
    have hR : addR a b = (fm (nv a + nv b), 0) := by unfold addR; rw [if_neg HN.out]
    have HR := Lib.hid hR
    clear hR
    go_wp2_with fail
    go_region_with (first
      | (go_at_call 79; refine (add_any s0.a s1.a s0.n s0.c s1.n s1.c (nv a) (nv b) _ (hn0.drewN 1) (hn1.drewN 1) (by omega) (by omega)).mono ?_; rintro e w2 ⟨ro, rn, rc, rfl, hnum, hb2⟩)
      | (go_at_call 56; refine (answered_ok ro rn rc _ _ hnum ?_).mono ?_; exact Nat.le_trans (num_len_le hnum (sum_lt HV0.out HV1.out)) (by omega); rintro e w3 ⟨rfl, hb3⟩))
    all_goals
      go_wp2_with fail
      go_ret2
      exact ⟨by rw [HR.out]; rfl, ((hbel.trans ((below_drawn (Below.refl _ _) 1).mono hbel.size)).trans (hb2.mono hbel.size)).trans (hb3.mono (Nat.le_trans hbel.size hb2.size))⟩


/-- What Mul answers. -/
def mulR (a b : ByteArray) : List UInt8 × Int := if 512 < a.size ∨ 512 < b.size then ([], 30) else (fm (nv a * nv b), 0)

set_option maxRecDepth 100000 in
set_option maxHeartbeats 1600000 in
theorem Mul_any (a b : ByteArray) (w : World) (ha : a.size ≤ 9223372036854775807) (hb : b.size ≤ 9223372036854775807) :
    Calls Tryz.prog 47 #[.string a, .string b] w fun e w' => e = ret2 (mulR a b).1 (mulR a b).2 ∧ Below w.heap.size w w' := by
  obtain ⟨sf, hsf⟩ : ∃ sf : Nat → ByteArray, sf = fun i => if i = 0 then a else b := ⟨_, rfl⟩
  have h0 : sf 0 = a := by rw [hsf]; rfl
  have h1 : sf 1 = b := by rw [hsf]; rfl
  have H0 := Lib.hid h0; have H1 := Lib.hid h1
  obtain ⟨c0, c1⟩ := two_cells w (.string a) (.string b) 9 w.heap.size rfl
  have hc : ∀ i, i < 2 → (w.alloc (.cells #[.string a, .string b] 9)).cell? ⟨w.heap.size, i, none⟩ = some (.string (sf i)) := fun i hi => by
    match i, hi with
    | 0, _ => rw [h0]; exact c0
    | 1, _ => rw [h1]; exact c1
  have hs : ∀ i, i < 2 → (sf i).size ≤ 9223372036854775807 := fun i hi => by
    match i, hi with
    | 0, _ => rw [h0]; exact ha
    | 1, _ => rw [h1]; exact hb
  have HC := Lib.hid hc; have HS := Lib.hid hs
  clear hsf h0 h1 c0 c1 hc hs
  go_enter Tryz.func47, Tryz.ntmps47
  go_wp2_with fail
  refine (taken_any false _ 2 sf _ (by omega) (by omega) HC.out HS.out).mono ?_
  rintro e w1 ⟨hb1, h⟩
  have hbel : Below w.heap.size w w1 := ((Below.refl _ _).alloc (Nat.le_refl _) _).trans (hb1.mono (by simp))
  rcases h with ⟨⟨i, hi, hlong⟩, rfl⟩ | ⟨h512, hf, hz, rfl⟩ | ⟨h512, hnz, g, cap, vals, rfl, hnums, hcell⟩
  · have hor : 512 < a.size ∨ 512 < b.size := by
      match i, hi with
      | 0, _ => left; rw [← H0.out]; exact hlong
      | 1, _ => right; rw [← H1.out]; exact hlong
    have hR : mulR a b = ([], 30) := by unfold mulR; rw [if_pos hor]
    have HR := Lib.hid hR
    clear hor hR hlong
    unfold errLong
    go_wp2_with (go_at_call 56; refine (answeredLong _).mono ?_; rintro e w2 ⟨rfl, rfl⟩)
    go_ret2
    exact ⟨by rw [HR.out]; rfl, hbel⟩
  · simp at hf
  · have hno : ¬ (512 < a.size ∨ 512 < b.size) := by
      have g0 := h512 0 (by omega); have g1 := h512 1 (by omega)
      rw [H0.out] at g0; rw [H1.out] at g1
      omega
    have HN := Lib.hid hno
    clear hno
    obtain ⟨s0, hs0⟩ : ∃ s, vals[0]? = some s := ⟨_, List.getElem?_eq_getElem (by rw [hnums.len]; omega)⟩
    obtain ⟨s1, hs1⟩ : ∃ s, vals[1]? = some s := ⟨_, List.getElem?_eq_getElem (by rw [hnums.len]; omega)⟩
    have hn0 : Num w1 s0.a s0.n s0.c (nv a) := by have h := hnums.num 0 s0 hs0; rw [H0.out] at h; exact h
    have hn1 : Num w1 s1.a s1.n s1.c (nv b) := by have h := hnums.num 1 s1 hs1; rw [H1.out] at h; exact h
    have hl0 : s0.n ≤ 128 := num_size hn0 (by have := HN.out; omega)
    have hl1 : s1.n ≤ 128 := num_size hn1 (by have := HN.out; omega)
    have hv0 : nv a < LB ^ 128 := nv_lt a 128 (by have := HN.out; omega)
    have hv1 : nv b < LB ^ 128 := nv_lt b 128 (by have := HN.out; omega)
    have HV0 := Lib.hid hv0; have HV1 := Lib.hid hv1
    have c0 : w1.cell? ⟨g, 0, none⟩ = some (.slice s0.a s0.n s0.c) := hcell 0 s0 hs0
    have c1 : w1.cell? ⟨g, 1, none⟩ = some (.slice s1.a s1.n s1.c) := hcell 1 s1 hs1
    clear hcell hnums h512 hv0 hv1
    have hR : mulR a b = (fm (nv a * nv b), 0) := by unfold mulR; rw [if_neg HN.out]
    have HR := Lib.hid hR
    clear hR
    go_wp2_with fail
    go_region_with (first
      | (go_at_call 81; refine (mul_any s0.a s1.a s0.n s0.c s1.n s1.c (nv a) (nv b) _ (hn0.drewN 1) (hn1.drewN 1) (by omega) (by omega)).mono ?_; rintro e w2 ⟨ro, rn, rc, rfl, hnum, hb2⟩)
      | (go_at_call 56; refine (answered_ok ro rn rc _ _ hnum ?_).mono ?_; exact Nat.le_trans (num_len_le hnum (prod_lt HV0.out HV1.out)) (by omega); rintro e w3 ⟨rfl, hb3⟩))
    all_goals
      go_wp2_with fail
      go_ret2
      exact ⟨by rw [HR.out]; rfl, ((hbel.trans ((below_drawn (Below.refl _ _) 1).mono hbel.size)).trans (hb2.mono hbel.size)).trans (hb3.mono (Nat.le_trans hbel.size hb2.size))⟩

end Go.Proofs.YtjkjlbchbbpmaaaGreatDoor
/- Sub and Div: the walks. (Printed by gen_pub.py.) -/
namespace Go.Proofs.YtjkjlbchbbpmaaaGreatDoor
open Go.RowKit
/-- Three results: two texts and an error's number. -/
def ret3 (l m : List UInt8) (n : Int) : Ending := .returned (.tuple #[.string ⟨l.toArray⟩, .string ⟨m.toArray⟩, .int .i64 n])

/-- What Sub answers. -/
def subR (a b : ByteArray) : List UInt8 × Int := if 512 < a.size ∨ 512 < b.size then ([], 30) else if nv a < nv b then ([], 32) else (fm (nv a - nv b), 0)

set_option maxRecDepth 100000 in
set_option maxHeartbeats 1600000 in
theorem Sub_any (a b : ByteArray) (w : World) (ha : a.size ≤ 9223372036854775807) (hb : b.size ≤ 9223372036854775807) :
    Calls Tryz.prog 46 #[.string a, .string b] w fun e w' => e = ret2 (subR a b).1 (subR a b).2 ∧ Below w.heap.size w w' := by
  obtain ⟨sf, hsf⟩ : ∃ sf : Nat → ByteArray, sf = fun i => if i = 0 then a else b := ⟨_, rfl⟩
  have h0 : sf 0 = a := by rw [hsf]; rfl
  have h1 : sf 1 = b := by rw [hsf]; rfl
  have H0 := Lib.hid h0; have H1 := Lib.hid h1
  obtain ⟨c0, c1⟩ := two_cells w (.string a) (.string b) 9 w.heap.size rfl
  have hc : ∀ i, i < 2 → (w.alloc (.cells #[.string a, .string b] 9)).cell? ⟨w.heap.size, i, none⟩ = some (.string (sf i)) := fun i hi => by
    match i, hi with
    | 0, _ => rw [h0]; exact c0
    | 1, _ => rw [h1]; exact c1
  have hs : ∀ i, i < 2 → (sf i).size ≤ 9223372036854775807 := fun i hi => by
    match i, hi with
    | 0, _ => rw [h0]; exact ha
    | 1, _ => rw [h1]; exact hb
  have HC := Lib.hid hc; have HS := Lib.hid hs
  clear hsf h0 h1 c0 c1 hc hs
  go_enter Tryz.func46, Tryz.ntmps46
  go_wp2_with fail
  refine (taken_any false _ 2 sf _ (by omega) (by omega) HC.out HS.out).mono ?_
  rintro e w1 ⟨hb1, h⟩
  have hbel : Below w.heap.size w w1 := ((Below.refl _ _).alloc (Nat.le_refl _) _).trans (hb1.mono (by simp))
  rcases h with ⟨⟨i, hi, hlong⟩, rfl⟩ | ⟨h512, hf, hz, rfl⟩ | ⟨h512, hnz, g, cap, vals, rfl, hnums, hcell⟩
  · have hor : 512 < a.size ∨ 512 < b.size := by
      match i, hi with
      | 0, _ => left; rw [← H0.out]; exact hlong
      | 1, _ => right; rw [← H1.out]; exact hlong
    have hR : subR a b = ([], 30) := by unfold subR; rw [if_pos hor]
    have HR := Lib.hid hR
    clear hor hR hlong
    unfold errLong
    go_wp2_with (go_at_call 56; refine (answeredLong _).mono ?_; rintro e w2 ⟨rfl, rfl⟩)
    go_ret2
    exact ⟨by rw [HR.out]; rfl, hbel⟩
  · simp at hf
  · have hno : ¬ (512 < a.size ∨ 512 < b.size) := by
      have g0 := h512 0 (by omega); have g1 := h512 1 (by omega)
      rw [H0.out] at g0; rw [H1.out] at g1
      omega
    have HN := Lib.hid hno
    clear hno
    obtain ⟨s0, hs0⟩ : ∃ s, vals[0]? = some s := ⟨_, List.getElem?_eq_getElem (by rw [hnums.len]; omega)⟩
    obtain ⟨s1, hs1⟩ : ∃ s, vals[1]? = some s := ⟨_, List.getElem?_eq_getElem (by rw [hnums.len]; omega)⟩
    have hn0 : Num w1 s0.a s0.n s0.c (nv a) := by have h := hnums.num 0 s0 hs0; rw [H0.out] at h; exact h
    have hn1 : Num w1 s1.a s1.n s1.c (nv b) := by have h := hnums.num 1 s1 hs1; rw [H1.out] at h; exact h
    have hl0 : s0.n ≤ 128 := num_size hn0 (by have := HN.out; omega)
    have hl1 : s1.n ≤ 128 := num_size hn1 (by have := HN.out; omega)
    have hv0 : nv a < LB ^ 128 := nv_lt a 128 (by have := HN.out; omega)
    have hv1 : nv b < LB ^ 128 := nv_lt b 128 (by have := HN.out; omega)
    have HV0 := Lib.hid hv0; have HV1 := Lib.hid hv1
    have c0 : w1.cell? ⟨g, 0, none⟩ = some (.slice s0.a s0.n s0.c) := hcell 0 s0 hs0
    have c1 : w1.cell? ⟨g, 1, none⟩ = some (.slice s1.a s1.n s1.c) := hcell 1 s1 hs1
    clear hcell hnums h512 hv0 hv1
    by_cases hlt : nv a < nv b
    · have hR : subR a b = ([], 32) := by unfold subR; rw [if_neg HN.out, if_pos hlt]
      have HR := Lib.hid hR; have HLT := Lib.hid hlt
      clear hR hlt
      go_wp2_with fail
      go_region_with (first
        | (go_at_call 80; refine (sub_lt s0.a s1.a s0.n s0.c s1.n s1.c (nv a) (nv b) _ (hn0.drewN 1) (hn1.drewN 1) HLT.out).mono ?_; rintro e w2 ⟨rfl, hb2⟩)
        | (go_at_call 56; refine (answeredBelow _).mono ?_; rintro e w3 ⟨rfl, rfl⟩))
      all_goals
        go_wp2_with fail
        go_ret2
        exact ⟨by rw [HR.out]; rfl, ((hbel.trans ((below_drawn (Below.refl _ _) 1).mono hbel.size)).trans (hb2.mono hbel.size))⟩
    · have hR : subR a b = (fm (nv a - nv b), 0) := by unfold subR; rw [if_neg HN.out, if_neg hlt]
      have HR := Lib.hid hR; have HLT := Lib.hid hlt
      clear hR hlt
      go_wp2_with fail
      go_region_with (first
        | (go_at_call 80; refine (sub_any s0.a s1.a s0.n s0.c s1.n s1.c (nv a) (nv b) _ (hn0.drewN 1) (hn1.drewN 1) (by omega) (Nat.not_lt.1 HLT.out)).mono ?_; rintro e w2 ⟨ro, rn, rc, rfl, hnum, hb2⟩)
        | (go_at_call 56; refine (answered_ok ro rn rc _ _ hnum ?_).mono ?_; exact Nat.le_trans (num_len_le hnum (Nat.lt_of_le_of_lt (Nat.sub_le _ _) HV0.out)) (by omega); rintro e w3 ⟨rfl, hb3⟩))
      all_goals
        go_wp2_with fail
        go_ret2
        exact ⟨by rw [HR.out]; rfl, ((hbel.trans ((below_drawn (Below.refl _ _) 1).mono hbel.size)).trans (hb2.mono hbel.size)).trans (hb3.mono (Nat.le_trans hbel.size hb2.size))⟩


/-- What Div answers. -/
def divR (a b : ByteArray) : List UInt8 × List UInt8 × Int := if 512 < a.size ∨ 512 < b.size then ([], [], 30) else if nv b = 0 then ([], [], 31) else (fm (nv a / nv b), fm (nv a % nv b), 0)

set_option maxRecDepth 100000 in
set_option maxHeartbeats 1600000 in
theorem Div_any (a b : ByteArray) (w : World) (ha : a.size ≤ 9223372036854775807) (hb : b.size ≤ 9223372036854775807) :
    Calls Tryz.prog 19 #[.string a, .string b] w fun e w' => e = ret3 (divR a b).1 (divR a b).2.1 (divR a b).2.2 ∧ Below w.heap.size w w' := by
  obtain ⟨sf, hsf⟩ : ∃ sf : Nat → ByteArray, sf = fun i => if i = 0 then a else b := ⟨_, rfl⟩
  have h0 : sf 0 = a := by rw [hsf]; rfl
  have h1 : sf 1 = b := by rw [hsf]; rfl
  have H0 := Lib.hid h0; have H1 := Lib.hid h1
  obtain ⟨c0, c1⟩ := two_cells w (.string a) (.string b) 9 w.heap.size rfl
  have hc : ∀ i, i < 2 → (w.alloc (.cells #[.string a, .string b] 9)).cell? ⟨w.heap.size, i, none⟩ = some (.string (sf i)) := fun i hi => by
    match i, hi with
    | 0, _ => rw [h0]; exact c0
    | 1, _ => rw [h1]; exact c1
  have hs : ∀ i, i < 2 → (sf i).size ≤ 9223372036854775807 := fun i hi => by
    match i, hi with
    | 0, _ => rw [h0]; exact ha
    | 1, _ => rw [h1]; exact hb
  have HC := Lib.hid hc; have HS := Lib.hid hs
  clear hsf h0 h1 c0 c1 hc hs
  go_enter Tryz.func19, Tryz.ntmps19
  go_wp2_with fail
  refine (taken_any true _ 2 sf _ (by omega) (by omega) HC.out HS.out).mono ?_
  rintro e w1 ⟨hb1, h⟩
  have hbel : Below w.heap.size w w1 := ((Below.refl _ _).alloc (Nat.le_refl _) _).trans (hb1.mono (by simp))
  rcases h with ⟨⟨i, hi, hlong⟩, rfl⟩ | ⟨h512, hf, hz, rfl⟩ | ⟨h512, hnz, g, cap, vals, rfl, hnums, hcell⟩
  · have hor : 512 < a.size ∨ 512 < b.size := by
      match i, hi with
      | 0, _ => left; rw [← H0.out]; exact hlong
      | 1, _ => right; rw [← H1.out]; exact hlong
    have hR : divR a b = ([], [], 30) := by unfold divR; rw [if_pos hor]
    have HR := Lib.hid hR
    clear hor hR hlong
    unfold errLong
    have ht := toldLong
    unfold errLong at ht
    have HT := Lib.hid ht; clear ht
    go_wp2_with (go_at_call 41; refine (HT.out _).mono ?_; rintro e w2 ⟨rfl, rfl⟩)
    go_ret3
    exact ⟨by rw [HR.out]; rfl, hbel⟩
  · have hno : ¬ (512 < a.size ∨ 512 < b.size) := by
      have g0 := h512 0 (by omega); have g1 := h512 1 (by omega)
      rw [H0.out] at g0; rw [H1.out] at g1
      omega
    have hb0 : nv b = 0 := by rw [← H1.out]; exact hz
    have hR : divR a b = ([], [], 31) := by unfold divR; rw [if_neg hno, if_pos hb0]
    have HR := Lib.hid hR
    clear hno hb0 hR hz h512
    unfold errZero
    have ht := toldZero
    unfold errZero at ht
    have HT := Lib.hid ht; clear ht
    go_wp2_with (go_at_call 41; refine (HT.out _).mono ?_; rintro e w2 ⟨rfl, rfl⟩)
    go_ret3
    exact ⟨by rw [HR.out]; rfl, hbel⟩
  · have hno : ¬ (512 < a.size ∨ 512 < b.size) := by
      have g0 := h512 0 (by omega); have g1 := h512 1 (by omega)
      rw [H0.out] at g0; rw [H1.out] at g1
      omega
    have HN := Lib.hid hno
    clear hno
    obtain ⟨s0, hs0⟩ : ∃ s, vals[0]? = some s := ⟨_, List.getElem?_eq_getElem (by rw [hnums.len]; omega)⟩
    obtain ⟨s1, hs1⟩ : ∃ s, vals[1]? = some s := ⟨_, List.getElem?_eq_getElem (by rw [hnums.len]; omega)⟩
    have hn0 : Num w1 s0.a s0.n s0.c (nv a) := by have h := hnums.num 0 s0 hs0; rw [H0.out] at h; exact h
    have hn1 : Num w1 s1.a s1.n s1.c (nv b) := by have h := hnums.num 1 s1 hs1; rw [H1.out] at h; exact h
    have hl0 : s0.n ≤ 128 := num_size hn0 (by have := HN.out; omega)
    have hl1 : s1.n ≤ 128 := num_size hn1 (by have := HN.out; omega)
    have hv0 : nv a < LB ^ 128 := nv_lt a 128 (by have := HN.out; omega)
    have hv1 : nv b < LB ^ 128 := nv_lt b 128 (by have := HN.out; omega)
    have HV0 := Lib.hid hv0; have HV1 := Lib.hid hv1
    have c0 : w1.cell? ⟨g, 0, none⟩ = some (.slice s0.a s0.n s0.c) := hcell 0 s0 hs0
    have c1 : w1.cell? ⟨g, 1, none⟩ = some (.slice s1.a s1.n s1.c) := hcell 1 s1 hs1
    clear hcell hnums h512 hv0 hv1
    have hb0 : 0 < nv b := by rw [← H1.out]; exact hnz rfl
    have hR : divR a b = (fm (nv a / nv b), fm (nv a % nv b), 0) := by unfold divR; rw [if_neg HN.out, if_neg (by omega)]
    have HR := Lib.hid hR; have HB0 := Lib.hid hb0
    clear hR hb0 hnz
    go_wp2_with fail
    go_region_with (go_at_call 42; refine (div_any s0.a s1.a s0.n s0.c s1.n s1.c (nv a) (nv b) _ (hn0.drewN 1) (hn1.drewN 1) HB0.out (by omega)).mono ?_; rintro e w2 ⟨qo, qn, qc, ro, rn, rc, rfl, hq, hr, hb2⟩)
    all_goals
      have hqn : qn ≤ 10000000 := Nat.le_trans (num_len_le hq (Nat.lt_of_le_of_lt (Nat.div_le_self _ _) HV0.out)) (by omega)
      have hrn : rn ≤ 10000000 := Nat.le_trans (num_len_le hr (Nat.lt_of_le_of_lt (Nat.mod_le _ _) HV0.out)) (by omega)
      go_wp2_with fail
      refine (form_any qo qn qc _ _ hq hqn).mono ?_
      rintro e w3 ⟨rfl, hb3⟩
      go_wp2_with fail
      refine (form_any ro rn rc _ _ (hr.below hb3 (Nat.le_refl _)) hrn).mono ?_
      rintro e w4 ⟨rfl, hb4⟩
      go_wp2_with fail
      go_ret3
      exact ⟨by rw [HR.out]; rfl, ((((hbel.trans ((below_drawn (Below.refl _ _) 1).mono hbel.size)).trans (hb2.mono hbel.size)).trans (hb3.mono (Nat.le_trans hbel.size hb2.size))).trans (hb4.mono (Nat.le_trans hbel.size (Nat.le_trans hb2.size hb3.size))))⟩

end Go.Proofs.YtjkjlbchbbpmaaaGreatDoor
