/- der.pairs: the walk; two bytes more behind one's own. -/
import Derived.Test.YtebhiplcoioenaaGreatDoorZDG
import Derived.Test.YtebhiplcoioenaaGreatDoorZDI
import Derived.Deep.LoopGhost
namespace Go.Proofs.YtebhiplcoioenaaGreatDoor
open Go.RowKit

theorem wp_snocB2 {w w1 : World} {B : Nat} {ops : Array Oper} {rest : List Oper} {o : Oper} {a : Act} {Q : Exit → Act → World → Prop} {v : Value} (hgd : o.guard = none) (s x : Operand) (ho : o.op = .call { callee := .builtin .append, args := #[s, x], argTypes := #[68, 68] })
    {l : List UInt8} (c d : UInt8) {p q : Int} (hp : p = (c.toNat : Nat)) (hq : q = (d.toNat : Nat)) (hsv : a.eval s = v) (hxv : a.eval x = .slice (some ⟨w1.heap.size, 0, none⟩) 2 2) (hO : OwnB B w1 v l) (hB : B ≤ w.heap.size) (hb : Below B w w1) (hk : l.length + 2 ≤ 3000000)
    (h : ∀ v' w2, OwnB B w2 v' (l ++ [c, d]) → Below B w w2 → wpList Tryz.prog ops Q rest (a.put o.dst v') w2) : wpList Tryz.prog ops Q (o :: rest) a (w1.alloc (.cells #[.int .u8 p, .int .u8 q] 5)) := by
  subst hp hq
  obtain ⟨i0, hi, hz0, hz1, hz2⟩ := info_parts info_u8
  have hnew := heap_alloc_new w1 (.cells #[.int .u8 (c.toNat : Nat), .int .u8 (d.toNat : Nat)] 5)
  have hbs := hb.size
  obtain ⟨v', w2, hr, hown, hgr, _, hat⟩ := run_append_own_at (P := Tryz.prog) (w1.alloc (.cells #[.int .u8 (c.toNat : Nat), .int .u8 (d.toNat : Nat)] 5)) B 68 o.type 5 i0 (.int .u8 0) 1 1 Tryz.underlying68 hi hz0 hz1 hz2 rfl (by decide) v l.length (ByC l) (hO.alloc _) ⟨w1.heap.size, 0, none⟩ 2 2 [.int .u8 (c.toNat : Nat), .int .u8 (d.toNat : Nat)] (by rfl) (fun k u hj => by
      rw [Addr.add_lit, Nat.zero_add]
      simp only [World.cell?, hnew]
      rw [if_neg (by simp)]
      simpa using hj) (by simp [Value.oneCell']) (by unfold maxLen; omega) (by omega) (by simp; omega)
  refine wpList_plain hgd fun K hK => ?_
  unfold Oper.wp
  simp only [execOp, ho, resolve, invoke, builtin, Sem.run_bind, Sem.run_pure, Result.andThen_ok, List.map_toArray, List.map_cons, List.map_nil, hsv, hxv, hr]
  have hown2 : OwnB B w2 v' (l ++ [c, d]) := by
    unfold OwnB ByC
    rw [List.length_append, List.map_append]; exact hown
  exact hK _ _ (h v' w2 hown2 ((hb.alloc (by omega) _).grown hgr (by simp; omega) (fun q hq => (hO.lt q hq).1)))
theorem two_sum (l : List Nat) : (l.map twoT).flatten.length = 2 * l.length := by
  induction l with
  | nil => rfl
  | cons x l ih => simp only [List.map_cons, List.flatten_cons, List.length_append, ih, two_len, List.length_cons]; omega
set_option maxRecDepth 100000 in
set_option maxHeartbeats 4000000 in
theorem pairs_any (l : List Nat) (hl : ∀ n, n ∈ l → n < 100) (hlen : l.length ≤ 10) (g cap : Nat) (w : World) (hg : ∀ (j : Nat) x, l[j]? = some x → w.cell? ⟨g, j, none⟩ = some (.int .i64 (x : Nat))) (hgl : g < w.heap.size) (hcap : l.length ≤ cap ∧ cap ≤ 9223372036854775807) :
    Calls Tryz.prog 54 #[.slice (some ⟨g, 0, none⟩) l.length cap] w fun e w' => e = .returned (.string (bs (l.map twoT).flatten)) ∧ Below w.heap.size w w' := by
  have HG := Lib.hid hg
  have HL := Lib.hid hl
  obtain ⟨n, hnn⟩ : ∃ n, n = l.length := ⟨_, rfl⟩
  have HNN := Lib.hid hnn
  rw [← hnn] at hlen hcap ⊢
  clear hg hl hnn
  obtain ⟨hcap1, hcap2⟩ := hcap
  go_enter Tryz.func54, Tryz.ntmps54
  go_upto_region 3 with fail
  go_loopg [3, 8] n (fun gg s3 s8 wr => ∃ (i : Nat), i ≤ n ∧ gg = n - i ∧ s8 = .int .i64 (i : Nat) ∧ Aside (OwnB w.heap.size wr s3 ((l.take i).map twoT).flatten) ∧ Aside (Below w.heap.size w wr))
  case atStart => exact ⟨0, Nat.zero_le _, rfl, rfl, by rw [List.take_zero]; exact World.ownsRow_nil _ _ _ _, Below.refl _ _⟩
  case round =>
    obtain ⟨i, hil, rfl, rfl, HO, HB⟩ := hrel
    by_cases hlt : i < n
    · have hltz : (i : Int) < (n : Int) := by omega
      obtain ⟨x, hx⟩ : ∃ x, l[i]? = some x := ⟨l[i]'(by have := HNN.out; omega), List.getElem?_eq_getElem _⟩
      have hx1 : x < 100 := HL.out x (List.mem_of_getElem? hx)
      have fx := (HB.out.cell (p := ⟨g, i, none⟩) hgl).trans (HG.out i x hx)
      have HTK : Hid (l.take (i + 1) = l.take i ++ [x]) := Lib.hid (by
        rw [List.take_add_one, hx]; rfl)
      have hk : ((l.take i).map twoT).flatten.length + 2 ≤ 3000000 := by rw [two_sum, List.length_take]; omega
      have HK := Lib.hid hk
      have e1 : (48 : Int) + (x : Int) / 10 = ((UInt8.ofNat (48 + x / 10)).toNat : Nat) := by rw [u8_lt _ (by omega)]; omega
      have e2 : (48 : Int) + (x : Int) % 10 = ((UInt8.ofNat (48 + x % 10)).toNat : Nat) := by rw [u8_lt _ (by omega)]; omega
      have E1 := Lib.hid e1
      have E2 := Lib.hid e2
      clear hx hk e1 e2
      go_wp2_with (at_builtin; refine wp_snocB2 rfl _ _ (by rfl) (UInt8.ofNat (48 + x / 10)) (UInt8.ofNat (48 + x % 10)) E1.out E2.out (by rfl) (by rfl) HO.out (Nat.le_refl _) HB.out HK.out ?_; intro v2 w2 hO2 hB2)
      go_roundg (n - (i + 1))
      case measure => omega
      case rel =>
        refine ⟨i + 1, by omega, rfl, by go_num, ?_, hB2⟩
        rw [HTK.out, List.map_append, List.flatten_append]
        exact hO2
    · have hltz : ¬ (i : Int) < (n : Int) := by omega
      have hO := HO.out
      rw [List.take_of_length_le (l := l) (i := i) (by have := HNN.out; omega)] at hO
      have ht := own_text hO
      go_wp2_with fail
      go_ret
      exact ⟨rfl, HB.out⟩
end Go.Proofs.YtebhiplcoioenaaGreatDoor
