/- R2Primes R2PrimesW, in one text. -/
import Derived.Test.YtjkjlbchbbpmaaaGreatDoorZR1
/- The reference of hash (layer 2): Primes: the walk. -/
namespace Go.Proofs.YtjkjlbchbbpmaaaGreatDoor
open Go.RowKit

/-- A slice of the call's own (blocks from B on) that holds these numbers. -/
def B64 (w : World) (B : Nat) (v : Value) (l : List Nat) : Prop := w.ownsRow B 51 1 v l.length (l.map fun (c : Nat) => Value.int .u64 (c : Int))
theorem B64.own {w : World} {B : Nat} {v : Value} {l : List Nat} (h : B64 w B v l) : w.ownsRow B 51 1 v l.length (l.map fun (c : Nat) => Value.int .u64 (c : Int)) := h
theorem B64.below {w w' : World} {B : Nat} {v : Value} {l : List Nat} (h : B64 w B v l) (hb : Below w.heap.size w w') : B64 w' B v l := by
  obtain ⟨h1, h2⟩ := h
  refine ⟨h1, ?_⟩
  rcases h2 with h2 | ⟨g, cap, cur, hv, hg, hh, r⟩
  · exact Or.inl h2
  · exact Or.inr ⟨g, cap, cur, hv, hg, by rw [hb.block g (by have := (Array.getElem?_eq_some_iff.1 hh).1; omega)]; exact hh, r⟩
theorem u64_cells (l : List Nat) : ∀ u ∈ (l.map fun (c : Nat) => Value.int .u64 (c : Int)), u.oneCell' = true := by
  intro u hu
  obtain ⟨c, _, rfl⟩ := List.mem_map.1 hu
  rfl
theorem wpList_append_u64 (w : World) {ops : Array Oper} {rest : List Oper} {o : Oper} {a : Act} {Q : Exit → Act → World → Prop} (hgd : o.guard = none) (s x : Operand) (t : TypeId)
    (ho : o.op = .call { callee := .builtin .append, args := #[s, x], argTypes := #[t, t] }) (ht : Tryz.prog.underlying t = some (.slice 51)) (B : Nat) (v : Value) (l : List Nat) (hs : a.eval s = v) (hb : B64 w B v l)
    (ad : Addr) (m c : Nat) (cs : List Nat) (hx : a.eval x = .slice (some ad) m c) (hl : cs.length = m) (hnews : ∀ j u, (cs.map fun (c : Nat) => Value.int .u64 (c : Int))[j]? = some u → w.cell? (ad.add j) = some u)
    (hlen : l.length + m ≤ 1099511627776) (hbase : B ≤ w.heap.size) (w0 : World) (hw0 : Below B w0 w)
    (h : ∀ v' w', B64 w' B v' (l ++ cs) → Below B w0 w' → wpList Tryz.prog ops Q rest (a.put o.dst v') w') : wpList Tryz.prog ops Q (o :: rest) a w := by
  obtain ⟨i, hi, hz0, hz1, hz2⟩ := info_parts r2info64
  refine wpList_append_own w hgd s x t ho B 51 i (.int .u64 0) 1 8 ht hi hz0 hz1 hz2 rfl (by decide) v l.length _ hs hb ad m c (cs.map fun (c : Nat) => Value.int .u64 (c : Int)) hx (by simp [hl]) hnews (u64_cells cs) (by unfold maxLen; omega) (by omega) hbase ?_
  intro v' w' hown hgr _
  refine h v' w' ?_ (hw0.grown hgr hbase ?_)
  · unfold B64
    rw [List.length_append, List.map_append, hl]; exact hown
  · intro k hk
    exact (hb.lt k hk).1
theorem B64.form {w : World} {B : Nat} {v : Value} {l : List Nat} (h : B64 w B v l) (h0 : 0 < l.length) : ∃ g cap, v = .slice (some ⟨g, 0, none⟩) l.length cap ∧ B ≤ g ∧ Rd w .u64 (some ⟨g, 0, none⟩) l.length cap (fun j => l.getD j 0) := by
  have hown := h.own
  obtain ⟨_, ⟨rfl, h2⟩ | ⟨g, cap, cur, rfl, hg, hh, h3, h4, h5, h6⟩⟩ := h
  · omega
  · refine ⟨g, cap, rfl, hg, Sh.some _ _ _, h3, by simpa [maxLen] using h4, fun j hj => ?_⟩
    have := hown.cellAt j (by omega)
    rw [blk_some, off_some, Nat.zero_add, this, List.getElem?_map, List.getElem?_eq_getElem hj]
    simp [List.getD, List.getElem?_eq_getElem hj]
theorem B64.nil (w : World) (B : Nat) : B64 w B (.slice none 0 0) [] := ⟨rfl, Or.inl ⟨rfl, rfl⟩⟩
/-- A new row of numbers. -/
theorem b64_new (w : World) (l : List Nat) (h : l.length ≤ 4611686018427387904) : B64 (w.alloc (.cells (l.map fun (c : Nat) => Value.int .u64 (c : Int)).toArray 51)) w.heap.size (.slice (some ⟨w.heap.size, 0, none⟩) l.length l.length) l :=
  ⟨by simp, Or.inr ⟨w.heap.size, l.length, _, rfl, Nat.le_refl _, heap_alloc_new w _, Nat.le_refl _, by unfold maxLen; omega, by simp, by rw [Nat.mul_one, List.take_of_length_le (by simp)]⟩⟩

def prs : List Nat := [2, 3, 5, 7, 11, 13, 17, 19, 23, 29, 31, 37, 41, 43, 47, 53, 59, 61, 67, 71, 73, 79, 83, 89, 97, 101, 103, 107, 109, 113, 127, 131, 137, 139, 149, 151, 157, 163, 167, 173, 179, 181, 191, 193, 197, 199, 211, 223, 227, 229, 233, 239, 241, 251, 257, 263, 269, 271, 277, 281, 283, 293, 307, 311, 313, 317, 331, 337, 347, 349, 353, 359, 367, 373, 379, 383, 389, 397, 401, 409]
def prB (p : Nat) : List Nat := prs.filter fun q => decide (q < p)
theorem prB_2 : prB 2 = [] := by decide +kernel
theorem prB_all : prB 410 = prs := by decide +kernel
theorem prB_len : ∀ p, p < 411 → (decide ((prB p).length < 80)) = decide (p < 410) := by decide +kernel
theorem prB_le : ∀ p, p < 411 → (prB p).length ≤ 80 := by decide +kernel
theorem prB_two : ∀ p, p < 411 → ((prB p).all fun q => decide (2 ≤ q) && decide (q < 512)) = true := by decide +kernel
theorem prB_step : ∀ p, p < 410 → 2 ≤ p → prB (p + 1) = bif (prB p).all (fun q => p % q != 0) then prB p ++ [p] else prB p := by decide +kernel
end Go.Proofs.YtjkjlbchbbpmaaaGreatDoor
/- The reference of hash (layer 2): Primes of 80: the walk. -/
namespace Go.Proofs.YtjkjlbchbbpmaaaGreatDoor
open Go.RowKit

theorem all_take_succ (l : List Nat) (f : Nat → Bool) (i : Nat) (hi : i < l.length) : (l.take (i + 1)).all f = ((l.take i).all f && f (l.getD i 0)) := by
  rw [List.take_succ_eq_append_getElem hi, List.all_append]
  simp [List.getD, List.getElem?_eq_getElem hi]

set_option maxRecDepth 100000 in
set_option maxHeartbeats 3200000 in
theorem r2primes_any (w : World) :
    Calls Tryz.prog 104 #[.int .i64 80] w fun e w' => ∃ g cap, e = .returned (.slice (some ⟨g, 0, none⟩) 80 cap) ∧ w.heap.size ≤ g ∧ Rd w' .u64 (some ⟨g, 0, none⟩) 80 cap (fun j => prs.getD j 0) ∧ Below w.heap.size w w' := by
  go_enter Tryz.func104, Tryz.ntmps104
  go_wp2_with fail
  have hb0 : B64 (w.alloc (.cells #[] 51)) w.heap.size (.slice (some ⟨w.heap.size, 0, none⟩) 0 0) (prB 2) := by rw [prB_2]; exact b64_new w [] (by decide)
  go_loopw [3, 4] (fun lv pv wr => ∃ p : Nat, 2 ≤ p ∧ p ≤ 410 ∧ pv = .int .u64 p ∧ B64 wr w.heap.size lv (prB p) ∧ Below w.heap.size w wr) (fun _ pv _ => 410 - (intOf pv).toNat)
  case atStart => exact ⟨2, by omega, by omega, rfl, hb0, (Below.refl _ _).alloc (Nat.le_refl _) _⟩
  case round =>
    clear hb0
    obtain ⟨p, hp2, hp, rfl, hbuf, hbel⟩ := hrel
    have hlen := prB_len p (by omega)
    have hle := prB_le p (by omega)
    have htwo := prB_two p (by omega)
    by_cases hp4 : p < 410
    · have hstep := prB_step p hp4 hp2
      rw [decide_eq_true hp4, decide_eq_true_eq] at hlen
      obtain ⟨l, hl⟩ : ∃ l, l = prB p := ⟨_, rfl⟩
      rw [← hl] at hbuf hlen hle htwo hstep
      have hform : ∃ lo cap, u3 = .slice lo l.length cap ∧ Rd wr .u64 lo l.length cap (fun j => l.getD j 0) := by
        by_cases h0 : 0 < l.length
        · obtain ⟨g, cap, h1, _, h2⟩ := hbuf.form h0
          exact ⟨_, cap, h1, h2⟩
        · obtain ⟨_, ⟨h1, h2⟩ | ⟨g, cap, cur, h1, hg, hh, h3, h4, h5, h6⟩⟩ := hbuf
          · exact ⟨none, 0, by rw [h1, h2], ⟨0, 0, Or.inr ⟨rfl, h2⟩⟩, by omega, by omega, fun j hj => absurd hj (by omega)⟩
          · exact ⟨_, cap, h1, Sh.some _ _ _, h3, by simpa [maxLen] using h4, fun j hj => absurd hj (by omega)⟩
      obtain ⟨lo, cap, hv, hrd⟩ := hform
      obtain ⟨n, hn⟩ : ∃ n, n = l.length := ⟨_, rfl⟩
      rw [← hn] at hv hrd hlen hle
      have hd80 : decide ((n : Int) < 80) = true := by rw [decide_eq_true_eq]; omega
      have HV := Lib.hid hv; have HL := Lib.hid hl; have HN := Lib.hid hn; have HTWO := Lib.hid htwo; have HSTEP := Lib.hid hstep
      clear hv hl hn htwo hstep
      rw [HV.out]
      go_wp2_with fail
      clear hd80
      obtain ⟨wo, rfl⟩ : ∃ wo : World, wo = wr := ⟨_, rfl⟩
      go_loopw [5, 6] (fun bv iv wr => ∃ i : Nat, i ≤ n ∧ iv = .int .i64 i ∧ bv = .bool ((l.take i).all fun q => p % q != 0) ∧ wr = wo) (fun _ iv _ => n - (intOf iv).toNat)
      case atStart => exact ⟨0, Nat.zero_le _, rfl, rfl, rfl⟩
      case round =>
        obtain ⟨i, hi, rfl, rfl, rfl⟩ := hrel
        by_cases hin : i < n
        · have hcell := hrd.cell i hin
          have hsh := hrd.sh
          obtain ⟨q, hq⟩ : ∃ q, q = l.getD i 0 := ⟨_, rfl⟩
          simp only [← hq] at hcell
          have hnext := all_take_succ l (fun q => p % q != 0) i (by rw [← HN.out]; exact hin)
          rw [← hq] at hnext
          have hq2 : 2 ≤ q ∧ q < 512 := by
            have h := List.all_eq_true.1 HTWO.out q (by rw [hq, List.getD_eq_getElem?_getD, List.getElem?_eq_getElem (by rw [← HN.out]; exact hin)]; exact List.getElem_mem _)
            simpa using h
          obtain ⟨hq2, hq512⟩ := hq2
          obtain ⟨b, hb⟩ : ∃ b, b = (l.take i).all fun q => p % q != 0 := ⟨_, rfl⟩
          rw [← hb] at hnext ⊢
          have HB := Lib.hid hb; have HNX := Lib.hid hnext; have HQ := Lib.hid hq
          clear hb hnext hq
          cases b with
          | false =>
            go_wp2_with fail
            go_roundw
            case rel => exact ⟨i + 1, by omega, by go_num, by rw [HNX.out]; rfl, trivial⟩
            case measure => simp [intOf]; omega
          | true =>
            obtain ⟨m, hm⟩ : ∃ m, m = p % q := ⟨_, rfl⟩
            have hmi : (p : Int) % (q : Int) = (m : Int) := by rw [hm]; rfl
            have HM := Lib.hid hm
            clear hm
            by_cases hm0 : m = 0
            · have e1 : ((m : Int) == 0) = true := by rw [hm0]; rfl
              have e2 : ((m : Int) != 0) = false := by rw [hm0]; rfl
              have HM0 := Lib.hid hm0
              clear hm0
              go_wp2_with fail
              go_roundw
              case rel => exact ⟨i + 1, by omega, by go_num, by rw [HNX.out, ← HM.out, HM0.out]; rfl, trivial⟩
              case measure => simp [intOf]; omega
            · have e1 : ((m : Int) == 0) = false := by rw [beq_eq_false_iff_ne]; omega
              have e2 : ((m : Int) != 0) = true := by rw [bne, e1]; rfl
              have HM0 := Lib.hid hm0
              clear hm0
              go_wp2_with fail
              go_roundw
              case rel => exact ⟨i + 1, by omega, by go_num, by rw [HNX.out, ← HM.out, bne, beq_eq_false_iff_ne.2 HM0.out]; rfl, trivial⟩
              case measure => simp [intOf]; omega
        · obtain rfl : i = n := by omega
          have hall : ((l.take i).all fun q => p % q != 0) = l.all fun q => p % q != 0 := by rw [HN.out, List.take_length]
          rw [hall]
          obtain ⟨b, hb⟩ : ∃ b, b = l.all fun q => p % q != 0 := ⟨_, rfl⟩
          have hst := HSTEP.out
          rw [← hb] at hst ⊢
          have HST := Lib.hid hst
          clear hall hb hst
          cases b with
          | false =>
            have hbuf2 : B64 wr w.heap.size (.slice lo i cap) (prB (p + 1)) := by
              rw [HST.out]
              rw [HV.out] at hbuf
              exact hbuf
            clear hbuf
            go_wp2_with fail
            go_roundw
            case rel => exact ⟨p + 1, by omega, by omega, by go_num, hbuf2, hbel⟩
            case measure => simp [intOf]; omega
          | true =>
            have hbuf2 : B64 wr w.heap.size (.slice lo i cap) l := by
              rw [HV.out] at hbuf
              exact hbuf
            have hsz := hbel.size
            obtain ⟨cs, hcs⟩ : ∃ cs : List Nat, cs = [p] := ⟨_, rfl⟩
            have hcl : cs.length = 1 := by rw [hcs]; rfl
            have hcv : (cs.map fun (c : Nat) => Value.int .u64 (c : Int)) = [Value.int .u64 (p : Int)] := by rw [hcs]; rfl
            have hpl : l.length + 1 ≤ 1099511627776 := by rw [← HN.out]; omega
            have hps : prB (p + 1) = l ++ cs := by rw [HST.out, hcs]; rfl
            have HCV := Lib.hid hcv; have HCL := Lib.hid hcl; have HPL := Lib.hid hpl; have HPS := Lib.hid hps
            clear hcs hcv hcl hpl hps hbuf
            go_wp2_with (at_builtin; refine wpList_append_u64 _ rfl (.tmp 31) (.tmp 33) _ rfl Tryz.underlying47 w.heap.size _ l rfl (hbuf2.below ((Below.refl _ _).alloc (Nat.le_refl _) _)) ⟨wr.heap.size, 0, none⟩ 1 1 cs rfl HCL.out ?h1 HPL.out (by simp; omega) w (hbel.alloc (by omega) _) ?_; rotate_left; intro v' w4 hbuf3 hbel3)
            case h1 => rw [HCV.out]; exact new_cells _ _ _
            go_roundw
            case rel => exact ⟨p + 1, by omega, by omega, by go_num, by rw [HPS.out]; exact hbuf3, hbel3⟩
            case measure => simp [intOf]; omega
    · obtain rfl : p = 410 := by omega
      rw [prB_all] at hbuf
      obtain ⟨g, cap, hv, hg, hrd⟩ := hbuf.form (by decide)
      have hl80 : prs.length = 80 := by decide
      rw [hl80] at hv hrd
      have HV := Lib.hid hv
      clear hv hlen hle htwo hl80
      rw [HV.out]
      go_wp2_with fail
      go_ret
      exact ⟨g, cap, rfl, hg, hrd, hbel⟩
end Go.Proofs.YtjkjlbchbbpmaaaGreatDoor
