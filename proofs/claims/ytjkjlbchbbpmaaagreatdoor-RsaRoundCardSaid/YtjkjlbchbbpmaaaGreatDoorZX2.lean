/- THex2 TRead TKnownP TKnown, in one text. -/
import Derived.Test.YtjkjlbchbbpmaaaGreatDoorZX1
import Derived.IntWalk
/- The reference's Hex (layer 1): the walk. -/
namespace Go.Proofs.YtjkjlbchbbpmaaaGreatDoor
open Go.RowKit

theorem str_index (s : ByteArray) (k : Nat) (h : k < s.size) (W : World) : (Instr.index 9 (.string s) (.int .i64 (k : Int))).run Tryz.prog W = .ok (.int .u8 (((s.data.toList.getD k 0).toNat : Nat) : Int)) W := by
  have e : s.data.toList.getD k 0 = s[k]'h := by
    rw [List.getD_eq_getElem?_getD, Array.getElem?_toList, show s.data[k]? = some (s[k]'h) from getElem?_pos s.data k h]; rfl
  rw [e]
  simp [Instr.index, asIntOf, run_underlying Tryz.underlying9, getElem?_pos s k h]

theorem hx_two (s : ByteArray) (k c : Nat) (hc : c = (s.data.toList.getD k 0).toNat) : hxL s (2 * (k + 1)) = hxL s (2 * k) ++ [UInt8.ofNat (dig (c / 16)), UInt8.ofNat (dig (c % 16))] := by
  have h1 : 2 * (k + 1) = 2 * k + 1 + 1 := by omega
  rw [h1, hxL_succ, hxL_succ, List.append_assoc]
  have e1 : nb s (2 * k) = c / 16 := by
    unfold nb
    rw [show 2 * k / 2 = k by omega, show 2 * k % 2 = 0 by omega, hc]; rfl
  have e2 : nb s (2 * k + 1) = c % 16 := by
    unfold nb
    rw [show (2 * k + 1) / 2 = k by omega, show (2 * k + 1) % 2 = 1 by omega, hc]; rfl
  rw [e1, e2]; rfl

theorem hex_quo {c : Nat} (hc : c < 256) (W : World) : (binOp .quo 5 (.int .u8 (c : Int)) (.int .u8 16)).run Tryz.prog W = .ok (.int .u8 ((c / 16 : Nat) : Int)) W := by
  rw [binOp_quo]
  simp [go_sem]
  rw [IntWalk.u8_in _ (by omega)]
theorem hex_rem {c : Nat} (hc : c < 256) (W : World) : (binOp .rem 5 (.int .u8 (c : Int)) (.int .u8 16)).run Tryz.prog W = .ok (.int .u8 ((c % 16 : Nat) : Int)) W := by
  rw [binOp_rem]
  simp [go_sem]
  exact Int.tmod_eq_emod_of_nonneg (by omega)

set_option maxRecDepth 100000 in
set_option maxHeartbeats 1600000 in
theorem hex_any (s : ByteArray) (w : World) (hs : s.size ≤ 1000000) :
    Calls Tryz.prog 70 #[.string s] w fun e w' => e = .returned (.string (hxS s)) ∧ Below w.heap.size w w' := by
  have hb0 : Buf (w.alloc (.cells #[] 5)) w.heap.size (.slice (some ⟨w.heap.size, 0, none⟩) 0 0) (hxL s (2 * 0)) := buf_new w [] (by decide)
  obtain ⟨hx, hhx⟩ : ∃ hx, hx = hex16 := ⟨_, rfl⟩
  have hix : ∀ k : Nat, k < 16 → ∀ W : World, (Instr.index 9 (.string hx) (.int .u8 (k : Int))).run Tryz.prog W = .ok (.int .u8 ((dig k : Nat) : Int)) W := fun k h W => by rw [hhx]; exact hex16_index8 k h W
  have HIX := Lib.hid hix; have HH := Lib.hid hhx
  clear hix hhx
  go_enter Tryz.func70, Tryz.ntmps70
  go_upto_region 3 with fail
  go_loopw [3, 4] (fun sv iv wr => ∃ (k : Nat) (bw : Value), bw = sv ∧ k ≤ s.size ∧ iv = .int .i64 k ∧ Buf wr w.heap.size bw (hxL s (2 * k)) ∧ Below w.heap.size w wr) (fun _ iv _ => s.size - (intOf iv).toNat)
  case atStart => exact ⟨0, _, rfl, Nat.zero_le _, rfl, hb0, (Below.refl _ _).alloc (Nat.le_refl _) _⟩
  case round =>
    clear hb0
    obtain ⟨k, bw, rfl, hk, rfl, hbuf, hbel⟩ := hrel
    have hsz := hbel.size
    by_cases hlt : k < s.size
    · obtain ⟨c, hc⟩ : ∃ c, c = (s.data.toList.getD k 0).toNat := ⟨_, rfl⟩
      have hcl : c < 256 := by rw [hc]; exact UInt8.toNat_lt _
      have hi := str_index s k hlt
      rw [← hc] at hi
      have hx2 := hx_two s k c hc
      have hln : (hxL s (2 * k)).length = 2 * k := hxL_length _ _
      obtain ⟨L, hL⟩ : ∃ L, L = hxL s (2 * k) := ⟨_, rfl⟩
      rw [← hL] at hx2 hln hbuf
      obtain ⟨c1, hc1⟩ : ∃ c1 : List UInt8, c1 = [UInt8.ofNat (dig (c / 16)), UInt8.ofNat (dig (c % 16))] := ⟨_, rfl⟩
      rw [← hc1] at hx2
      have hv1 : (c1.map fun c => Value.int .u8 (c.toNat : Nat)) = [Value.int .u8 ((dig (c / 16) : Nat) : Int), Value.int .u8 ((dig (c % 16) : Nat) : Int)] := by
        rw [hc1]; simp only [List.map_cons, List.map_nil]; rw [toNat_ofNat8 _ (dig_lt (by omega)), toNat_ofNat8 _ (dig_lt (by omega))]
      have hn1 : c1.length = 2 := by rw [hc1]; rfl
      obtain ⟨d1, hd1⟩ : ∃ d, d = dig (c / 16) := ⟨_, rfl⟩
      obtain ⟨d2, hd2⟩ : ∃ d, d = dig (c % 16) := ⟨_, rfl⟩
      have i1 := HIX.out (c / 16) (by omega)
      have i2 := HIX.out (c % 16) (by omega)
      rw [← hd1] at hv1 i1
      rw [← hd2] at hv1 i2
      have HI := Lib.hid hi; have HX2 := Lib.hid hx2; have HV1 := Lib.hid hv1; have HN1 := Lib.hid hn1; have HLN := Lib.hid hln; have I1 := Lib.hid i1; have I2 := Lib.hid i2
      clear hi hx2 hv1 hn1 hln i1 i2 hc hL hc1 hd1 hd2
      go_upto_region 5 with fail
      have hR0 := Rws.start wr
      refine wp_region_soft 12 (by kernel_rfl) (by kernel_rfl) (by rfl) (by assumption) ?_
      refine s_move (by rfl) (R := fun _ v => v = bw) (stb_is bw) (by exact fun _ _ _ h => h) ?_
      refine s_move (by rfl) (stb_is (.string s)) (by exact fun _ _ _ h => h) ?_
      refine s_move (by rfl) (stb_is (.int .i64 (k : Int))) (by exact fun _ _ _ h => h) ?_
      refine s_ixs (by rfl) (by exact fun _ _ _ h => h) (by exact fun _ _ _ h => h) HI.out ?_
      refine s_bin (r := .int .u8 ((c / 16 : Nat) : Int)) (by rfl) (by exact fun _ _ _ h => h) (by exact fun _ _ _ h => h) (by rfl) (fun W => hex_quo hcl W) ?_
      refine s_ixs (s := hx) (by rfl) (by exact fun _ _ _ h => h.trans (congrArg Value.string HH.out.symm)) (by exact fun _ _ _ h => h) I1.out ?_
      refine s_move (by rfl) (stb_is (.string s)) (by exact fun _ _ _ h => h) ?_
      refine s_move (by rfl) (stb_is (.int .i64 (k : Int))) (by exact fun _ _ _ h => h) ?_
      refine s_ixs (by rfl) (by exact fun _ _ _ h => h) (by exact fun _ _ _ h => h) HI.out ?_
      refine s_bin (r := .int .u8 ((c % 16 : Nat) : Int)) (by rfl) (by exact fun _ _ _ h => h) (by exact fun _ _ _ h => h) (by rfl) (fun W => hex_rem hcl W) ?_
      refine s_ixs (s := hx) (by rfl) (by exact fun _ _ _ h => h.trans (congrArg Value.string HH.out.symm)) (by exact fun _ _ _ h => h) I2.out ?_
      refine s_sl2 (by rfl) (by exact fun _ _ _ h => h) (by exact fun _ _ _ h => h) ?_
      intro w9 hR9 hb9 v12 h12 v13 h13 v14 h14 v15 h15 v16 h16 v17 h17 v18 h18 v19 h19 v20 h20 v21 h21 v22 h22 v23 h23
      simp only [softEnd, Act.put, List.setIfInBounds_toArray, List.set_cons_succ, List.set_cons_zero, List.drop_succ_cons, List.drop_zero]
      clear h13 h14 h15 h16 h17 h18 h19 h20 h21 h22
      obtain rfl : v12 = bw := h12
      obtain ⟨g, rfl, hg⟩ := h23
      have hbuf9 := hbuf.below hb9
      have hbel9 : Below w.heap.size w w9 := hbel.trans (hb9.mono hsz)
      have hsz9 := hbel9.size
      have HG := Lib.hid hg
      clear hg
      refine wpList_append_buf _ rfl (.tmp 12) (.tmp 23) _ rfl Tryz.underlying46 w.heap.size _ L rfl hbuf9 ⟨g, 0, none⟩ 2 2 c1 rfl HN1.out (Two.news HG.out HV1.out) (by rw [HLN.out]; omega) hsz9 w hbel9 ?_
      intro v2 w2 hbuf2 hbel2 _
      go_wp2_with fail
      go_roundw
      case rel => exact ⟨k + 1, _, rfl, by omega, by go_num, by rw [HX2.out]; exact hbuf2, hbel2⟩
      case measure => simp [intOf]; omega
    · obtain rfl : k = s.size := by omega
      have hcv := run_string_buf hbuf
      go_wp2_with fail
      go_ret
      exact ⟨rfl, hbel⟩
end Go.Proofs.YtjkjlbchbbpmaaaGreatDoor
/- The reference's read (layer 1), of digits of base sixteen: the walk. -/
namespace Go.Proofs.YtjkjlbchbbpmaaaGreatDoor
open Go.RowKit

theorem iinfo : (Tryz.prog.info? 3).map (fun i => (i.zero, i.size, i.bytes)) = some (some (.int .i64 0), 1, 8) := by kernel_rfl
/-- The value is a slice of the call's own (blocks from B on) that holds these numbers. -/
def IBuf (w : World) (B : Nat) (v : Value) (l : List Nat) : Prop :=
  w.ownsRow B 3 1 v l.length (l.map fun c => Value.int .i64 (c : Nat))
theorem IBuf.own {w : World} {B : Nat} {v : Value} {l : List Nat} (h : IBuf w B v l) : w.ownsRow B 3 1 v l.length (l.map fun c => Value.int .i64 (c : Nat)) := h
theorem inum_cells (l : List Nat) : ∀ u ∈ (l.map fun c => Value.int .i64 (c : Nat)), u.oneCell' = true := by
  intro u hu
  obtain ⟨c, _, rfl⟩ := List.mem_map.1 hu
  rfl
theorem IBuf.below {w w' : World} {B : Nat} {v : Value} {l : List Nat} (h : IBuf w B v l) (hb : Below w.heap.size w w') : IBuf w' B v l := by
  obtain ⟨h1, h2⟩ := h
  refine ⟨h1, ?_⟩
  rcases h2 with h2 | ⟨g, cap, cur, hv, hg, hh, r⟩
  · exact Or.inl h2
  · exact Or.inr ⟨g, cap, cur, hv, hg, by rw [hb.block g (by have := (Array.getElem?_eq_some_iff.1 hh).1; omega)]; exact hh, r⟩
/-- 'append(b, x)' of a number. -/
theorem wpList_append_i (w : World) {ops : Array Oper} {rest : List Oper} {o : Oper} {a : Act} {Q : Exit → Act → World → Prop} (hgd : o.guard = none) (s x : Operand) (t : TypeId)
    (ho : o.op = .call { callee := .builtin .append, args := #[s, x], argTypes := #[t, t] }) (ht : Tryz.prog.underlying t = some (.slice 3)) (B : Nat) (v : Value) (l : List Nat) (hs : a.eval s = v) (hb : IBuf w B v l)
    (ad : Addr) (y : Nat) (c : Nat) (hx : a.eval x = .slice (some ad) 1 c) (hnews : ∀ (j : Nat) u, ([y].map fun c => Value.int .i64 (c : Nat))[j]? = some u → w.cell? (ad.add j) = some u)
    (hlen : l.length + 1 ≤ 17592186044416) (hbase : B ≤ w.heap.size) (w0 : World) (hw0 : Below B w0 w)
    (h : ∀ v' w', IBuf w' B v' (l ++ [y]) → Below B w0 w' → wpList Tryz.prog ops Q rest (a.put o.dst v') w') : wpList Tryz.prog ops Q (o :: rest) a w := by
  obtain ⟨i, hi, hz0, hz1, hz2⟩ := info_parts iinfo
  refine wpList_append_own w hgd s x t ho B 3 i (.int .i64 0) 1 8 ht hi hz0 hz1 hz2 rfl (by decide) v l.length _ hs hb ad 1 c ([y].map fun c => Value.int .i64 (c : Nat)) hx rfl hnews (inum_cells [y]) (by unfold maxLen; omega) (by omega) hbase ?_
  intro v' w' hown hgr _
  refine h v' w' ?_ (hw0.grown hgr hbase ?_)
  · unfold IBuf
    rw [List.length_append, List.map_append]; exact hown
  · intro k hk
    exact (hb.lt k hk).1
theorem newi {w : World} {y : Nat} {v : Value} (h : Value.int .i64 (y : Nat) = v) :
    ∀ (j : Nat) (u : Value), ([y].map fun c => Value.int .i64 (c : Nat))[j]? = some u → (w.alloc (.cells #[v] 3)).cell? ((⟨w.heap.size, 0, none⟩ : Addr).add j) = some u := by
  rw [← h]; exact new_cells w #[.int .i64 (y : Nat)] 3
theorem IBuf.form {w : World} {B : Nat} {s : Value} {l : List Nat} (h : IBuf w B s l) (h0 : 0 < l.length) : ∃ g cap, s = .slice (some ⟨g, 0, none⟩) l.length cap ∧ ∀ j (hj : j < l.length), w.cell? ⟨g, j, none⟩ = some (.int .i64 ((l[j] : Nat) : Int)) := by
  have hown := h.own
  obtain ⟨h1, ⟨h2, h3⟩ | ⟨g, cap, cur, hv, hg, hh, hnc, hcm, _⟩⟩ := h
  · omega
  · refine ⟨g, cap, hv, fun j hj => ?_⟩
    rw [hv] at hown
    have := hown.cellAt j (by omega)
    rw [this]; simp [hj]
theorem shr_and {n j : Nat} (hn : n < 16) : bits BinOp.and IntKind.i64 ((n : Int) / 2 ^ j) 1 = ((n / 2 ^ j % 2 : Nat) : Int) := by
  have e : ((n : Int) / 2 ^ j) = ((n / 2 ^ j : Nat) : Int) := by rw [Int.natCast_ediv, Int.natCast_pow]; rfl
  rw [e]
  obtain ⟨x, hx⟩ : ∃ x, x = n / 2 ^ j := ⟨_, rfl⟩
  have hx16 : x < 16 := by rw [hx]; exact Nat.lt_of_le_of_lt (Nat.div_le_self _ _) hn
  rw [← hx]
  clear hx e
  rcases (by omega : x = 0 ∨ x = 1 ∨ x = 2 ∨ x = 3 ∨ x = 4 ∨ x = 5 ∨ x = 6 ∨ x = 7 ∨ x = 8 ∨ x = 9 ∨ x = 10 ∨ x = 11 ∨ x = 12 ∨ x = 13 ∨ x = 14 ∨ x = 15) with rfl | rfl | rfl | rfl | rfl | rfl | rfl | rfl | rfl | rfl | rfl | rfl | rfl | rfl | rfl | rfl <;> rfl
theorem hxS_get (b : ByteArray) (k : Nat) (h : k < 2 * b.size) (W : World) : (Instr.index 9 (.string (hxS b)) (.int .i64 (k : Int))).run Tryz.prog W = .ok (.int .u8 ((dig (nb b k) : Nat) : Int)) W := by
  have hk : k < (hxS b).size := by rw [hxS_size]; exact h
  have h1 := hxS_at b k hk
  simp [Instr.index, asIntOf, run_underlying Tryz.underlying9, getElem?_pos (hxS b) k hk]
  exact_mod_cast h1

set_option maxRecDepth 100000 in
set_option maxHeartbeats 3200000 in
theorem hexread_any (b : ByteArray) (w : World) (hb : b.size ≤ 1000000) (hb1 : 0 < b.size) :
    Calls Tryz.prog 69 #[.string (hxS b), .string hex16, .int .i64 4] w fun e w' => e = .returned (.tuple #[.string b, .bool true]) ∧ Below w.heap.size w w' := by
  have hb0 : IBuf (w.alloc (.cells #[] 3)) w.heap.size (.slice (some ⟨w.heap.size, 0, none⟩) 0 0) (btL b (4 * 0)) :=
    ⟨rfl, Or.inr ⟨w.heap.size, 0, #[], rfl, Nat.le_refl _, by simpa using heap_alloc_new w (.cells #[] 3), Nat.le_refl _, by decide, rfl, rfl⟩⟩
  have hix := hxS_get b
  have hsz : ((hxS b).size : Int) = 2 * (b.size : Int) := by rw [hxS_size]; omega
  have hpl := fun n h w => place_any n h w
  obtain ⟨hx, hhx⟩ : ∃ hx, hx = hex16 := ⟨_, rfl⟩
  rw [← hhx] at hpl ⊢
  obtain ⟨S, hS⟩ : ∃ S, S = hxS b := ⟨_, rfl⟩
  rw [← hS] at hix hsz ⊢
  have HIX := Lib.hid hix; have HPL := Lib.hid hpl; have HSZ := Lib.hid hsz
  clear hix hpl hsz hhx hS
  go_enter Tryz.func69, Tryz.ntmps69
  go_upto_region 3 with fail
  go_loopw [8, 9] (fun sv iv wr => ∃ (k : Nat) (bw : Value), bw = sv ∧ k ≤ 2 * b.size ∧ iv = .int .i64 k ∧ IBuf wr w.heap.size bw (btL b (4 * k)) ∧ Below w.heap.size w wr) (fun _ iv _ => 2 * b.size - (intOf iv).toNat)
  case atStart => exact ⟨0, _, rfl, Nat.zero_le _, rfl, hb0, (Below.refl _ _).alloc (Nat.le_refl _) _⟩
  case round =>
    clear hb0
    obtain ⟨k, bw, rfl, hk, rfl, hbuf, hbel⟩ := hrel
    have hsz := HSZ.out
    by_cases hlt : k < 2 * b.size
    · have hi := HIX.out k hlt
      have hn16 := nb_lt b k
      have hpl := HPL.out (nb b k) hn16
      have hstep : ∀ t, t < 4 → btL b (4 * k + t + 1) = btL b (4 * k + t) ++ [nb b k / 2 ^ (3 - t) % 2] := fun t ht => by
        rw [btL_succ, show (4 * k + t) / 4 = k by omega, show (4 * k + t) % 4 = t by omega]
      obtain ⟨d, hd⟩ : ∃ d, d = dig (nb b k) := ⟨_, rfl⟩
      obtain ⟨n, hn⟩ : ∃ n, n = nb b k := ⟨_, rfl⟩
      rw [← hd] at hi hpl
      rw [← hn] at hpl hstep hn16
      have HP := Lib.hid hpl; have HST := Lib.hid hstep
      clear hpl hstep hd hn
      have hlt2 : (k : Int) < 2 * (b.size : Int) := by omega
      go_wp2_with fail
      refine (HP.out _).mono ?_
      rintro e w1 ⟨rfl, rfl⟩
      go_wp2_with fail
      obtain ⟨wo, rfl⟩ : ∃ wo : World, wo = wr := ⟨_, rfl⟩
      have hbuf0 : IBuf wo w.heap.size bw (btL b (4 * k + (4 - 4))) := hbuf
      clear hbuf
      go_loopw [8, 11] (fun sv jv wr => ∃ (m : Nat) (bw : Value), bw = sv ∧ m ≤ 4 ∧ jv = .int .i64 ((m : Int) - 1) ∧ IBuf wr w.heap.size bw (btL b (4 * k + (4 - m))) ∧ Below w.heap.size w wr) (fun _ jv _ => (intOf jv + 1).toNat)
      case atStart => exact ⟨4, _, rfl, Nat.le_refl _, rfl, hbuf0, hbel⟩
      case round =>
        clear hbuf0 hbel
        obtain ⟨m, bw, rfl, hm, rfl, hbuf, hbel⟩ := hrel
        have hszw := hbel.size
        by_cases hm0 : 0 < m
        · obtain ⟨j, rfl⟩ : ∃ j, m = j + 1 := ⟨m - 1, by omega⟩
          have hnx := HST.out (4 - (j + 1)) (by omega)
          rw [show 4 * k + (4 - (j + 1)) + 1 = 4 * k + (4 - j) by omega, show 3 - (4 - (j + 1)) = j by omega] at hnx
          obtain ⟨L, hL⟩ : ∃ L, L = btL b (4 * k + (4 - (j + 1))) := ⟨_, rfl⟩
          have hln : L.length ≤ 10000000 := by rw [hL, btL_length]; omega
          rw [← hL] at hbuf hnx
          have hbt := shr_and (j := j) hn16
          have HNX := Lib.hid hnx; have HLN := Lib.hid hln; have HBT := Lib.hid hbt
          clear hnx hL hln hbt
          go_wp2_with (at_builtin; refine wpList_append_i _ rfl (.tmp 36) (.tmp 41) _ rfl Tryz.underlying139 w.heap.size _ L rfl (hbuf.below ((Below.refl _ _).alloc (Nat.le_refl _) _)) ⟨wr.heap.size, 0, none⟩ (n / 2 ^ j % 2) 1 rfl (newi (by rw [HBT.out])) (by have := HLN.out; omega) (by simp; omega) w (hbel.alloc hszw _) ?_; intro v2 w2 hbuf2 hbel2)
          go_roundw
          case rel => exact ⟨j, _, rfl, by omega, by go_num, by rw [HNX.out]; exact hbuf2, hbel2⟩
          case measure => simp [intOf]
        · obtain rfl : m = 0 := by omega
          have hbuf' : IBuf wr w.heap.size bw (btL b (4 * (k + 1))) := by rw [show 4 * (k + 1) = 4 * k + (4 - 0) by omega]; exact hbuf
          clear hbuf
          go_wp2_with fail
          go_roundw
          case rel => exact ⟨k + 1, _, rfl, by omega, by go_num, hbuf', hbel⟩
          case measure => simp [intOf]; omega
    · obtain rfl : k = 2 * b.size := by omega
      obtain ⟨wo, rfl⟩ : ∃ wo : World, wo = wr := ⟨_, rfl⟩
      have hbl : (btL b (4 * (2 * b.size))).length = 8 * b.size := by rw [btL_length]; omega
      obtain ⟨gb, cb, rfl, hcell⟩ := hbuf.form (by omega)
      have hcells : ∀ m, m < 8 * b.size → wo.cell? ⟨gb, m, none⟩ = some (.int .i64 ((nb b (m / 4) / 2 ^ (3 - m % 4) % 2 : Nat) : Int)) := fun m hm => by
        rw [hcell m (by omega)]
        congr 3
        have := btL_at b (4 * (2 * b.size)) m (by omega)
        rw [List.getElem?_eq_getElem (by omega)] at this
        exact Option.some.inj this
      have hgb : gb < wo.heap.size := World.block_lt_of_cell? wo ⟨gb, 0, none⟩ (hcells 0 (by omega))
      obtain ⟨N, hN⟩ : ∃ N, N = 8 * b.size := ⟨_, rfl⟩
      have hbl2 : (btL b (4 * (2 * b.size))).length = N := by omega
      rw [hbl2]
      rw [← hN] at hcells
      have hNle : N ≤ 8000000 := by omega
      have HC := Lib.hid hcells; have HN := Lib.hid hN
      clear hcell hcells hbl hbl2 hbuf hN
      have hb0 : Buf (wo.alloc (.cells #[] 5)) wo.heap.size (.slice (some ⟨wo.heap.size, 0, none⟩) 0 0) (upL b 0) := buf_new wo [] (by decide)
      go_upto_region 14 with fail
      go_loopw [12, 13] (fun bv kv wr => ∃ q K : Nat, Hid (K = 8 * q) ∧ q ≤ b.size ∧ K ≤ N ∧ kv = .int .i64 K ∧ Buf wr wo.heap.size bv (upL b q) ∧ Below wo.heap.size wo wr) (fun _ kv _ => N - (intOf kv).toNat)
      case atStart => exact ⟨0, 0, Lib.hid rfl, Nat.zero_le _, Nat.zero_le _, rfl, hb0, (Below.refl _ _).alloc (Nat.le_refl _) _⟩
      case round =>
        clear hb0
        obtain ⟨q, K, hK, hq, hKN, rfl, hbuf, hbel2⟩ := hrel
        have hsz2 := hbel2.size
        by_cases hlt : q < b.size
        · have hle : (K : Int) + 8 ≤ (N : Int) := by have := hK.out; have := HN.out; omega
          obtain ⟨c, hc⟩ : ∃ c, c = (b.data.toList.getD q 0).toNat := ⟨_, rfl⟩
          have hcl : c < 256 := by rw [hc]; exact UInt8.toNat_lt _
          have hbit : ∀ j, j < 8 → 2 * (c / 2 ^ (8 - j)) + nb b ((K + j) / 4) / 2 ^ (3 - (K + j) % 4) % 2 = c / 2 ^ (8 - (j + 1)) := fun j hj => by rw [hK.out]; exact byte_bit b q j hj c hc
          have hnxt : upL b (q + 1) = upL b q ++ [b.data.toList.getD q 0] := upL_succ b q hlt
          obtain ⟨c1, hc1⟩ : ∃ c1 : List UInt8, c1 = [b.data.toList.getD q 0] := ⟨_, rfl⟩
          rw [← hc1] at hnxt
          have hv1 : (c1.map fun c => Value.int .u8 (c.toNat : Nat)) = [Value.int .u8 (c : Int)] := by rw [hc1, hc]; rfl
          have hn1 : c1.length = 1 := by rw [hc1]; rfl
          obtain ⟨L, hL⟩ : ∃ L, L = upL b q := ⟨_, rfl⟩
          have hln : L.length ≤ 1000000 := by
            rw [hL]; unfold upL; rw [List.length_take, list_size]; omega
          rw [← hL] at hbuf hnxt
          have HBIT := Lib.hid hbit; have HNX := Lib.hid hnxt; have HV1 := Lib.hid hv1; have HN1 := Lib.hid hn1; have HLN := Lib.hid hln
          clear hbit hnxt hv1 hn1 hln hL hc1 hc
          go_upto_region 18 with fail
          go_loop [14, 15] (fun nv jv => ∃ j n : Nat, j ≤ 8 ∧ Hid (n = c / 2 ^ (8 - j)) ∧ n < 256 ∧ jv = .int .i64 j ∧ nv = .int .i64 n) (fun _ jv => 8 - (intOf jv).toNat)
          case atStart => exact ⟨0, 0, by omega, Lib.hid (by omega), by omega, rfl, rfl⟩
          case round =>
            obtain ⟨j, n, hj, hn, hn256, rfl, rfl⟩ := hrel
            by_cases hj8 : j < 8
            · have hcl1 := HC.out (K + j) (by omega)
              have hb2 := HBIT.out j hj8
              rw [← hn.out] at hb2
              obtain ⟨x, hx⟩ : ∃ x, x = nb b ((K + j) / 4) / 2 ^ (3 - (K + j) % 4) % 2 := ⟨_, rfl⟩
              rw [← hx] at hcl1 hb2
              have hx2 : x ≤ 1 := by rw [hx]; omega
              have hcl2 : wr.cell? ⟨gb, K + j, none⟩ = some (.int .i64 (x : Int)) := (hbel2.cell (p := ⟨gb, K + j, none⟩) hgb).trans hcl1
              have hlt3 : (K : Int) + (j : Int) < (N : Int) := by omega
              have hle2 : c / 2 ^ (8 - (j + 1)) < 256 := Nat.lt_of_le_of_lt (Nat.div_le_self _ _) hcl
              have HB2 := Lib.hid hb2; have HL2 := Lib.hid hle2
              clear hx hcl1 hb2 hle2
              go_wp2_with fail
              go_round
              case rel => exact ⟨j + 1, _, by omega, HB2, by rw [HB2.out]; exact HL2.out, by go_num, by go_num⟩
              case measure => simp [intOf]; omega
            · obtain rfl : j = 8 := by omega
              have hnc : n = c := by rw [hn.out]; simp
              have HNC := Lib.hid hnc
              clear hnc hn
              go_wp2_with (at_builtin; refine wpList_append_buf _ rfl (.tmp 64) (.tmp 67) _ rfl Tryz.underlying46 wo.heap.size _ L rfl (hbuf.below ((Below.refl _ _).alloc (Nat.le_refl _) _)) ⟨wr.heap.size, 0, none⟩ 1 1 c1 rfl HN1.out (news1 (by rw [HNC.out]; exact HV1.out)) (by have := HLN.out; omega) (by simp; omega) wo (hbel2.alloc hsz2 _) ?_; intro v2 w2 hbuf2 hbel3 _)
              go_roundw
              case rel =>
                rw [← HNX.out] at hbuf2
                exact ⟨q + 1, K + 8, Lib.hid (by have := hK.out; omega), by omega, by omega, by omega, hbuf2⟩
              case measure => simp [intOf]; omega
        · have hqe : q = b.size := by omega
          have hgt : ¬ (K : Int) + 8 ≤ (N : Int) := by have := hK.out; have := HN.out; omega
          have hcv := run_string_buf hbuf
          rw [hqe, upL_all] at hcv
          have hres := hbel.trans (hbel2.mono hbel.size)
          clear hqe hK
          go_wp2_with fail
          go_ret2
          exact ⟨rfl, hres⟩
end Go.Proofs.YtjkjlbchbbpmaaaGreatDoor
/- The known keys (printed by gen_known.py): plain. -/
namespace Go.Proofs.YtjkjlbchbbpmaaaGreatDoor
open Go.RowKit

def kb00 : ByteArray := ⟨([180, 173, 20, 202, 129, 81, 204, 35, 1, 143, 177, 81, 189, 177, 30, 180, 106, 198, 188, 187, 160, 133, 81, 57, 81, 51, 17, 173, 67, 101, 42, 121] ++ [226, 35, 234, 51, 166, 32, 241, 3, 199, 14, 134, 53, 125, 79, 192, 78, 70, 168, 178, 148, 5, 176, 135, 78, 201, 250, 176, 24, 148, 132, 127, 203] : List UInt8).toArray⟩
def kb01 : ByteArray := ⟨([1, 0, 1] : List UInt8).toArray⟩
def kb02 : ByteArray := ⟨([230, 81, 16, 44, 26, 12, 121, 72, 39, 48, 234, 254, 95, 80, 81, 243, 230, 254, 61, 34, 78, 153, 97, 201, 14, 60, 2, 195, 55, 203, 197, 167] : List UInt8).toArray⟩
def kb03 : ByteArray := ⟨([200, 210, 233, 10, 2, 30, 82, 91, 199, 136, 148, 255, 1, 15, 95, 45, 92, 71, 132, 222, 224, 18, 199, 197, 141, 233, 116, 43, 12, 225, 65, 61] : List UInt8).toArray⟩
def kb04 : ByteArray := ⟨([145, 72, 223, 119, 194, 114, 205, 234, 202, 246, 27, 182, 156, 111, 113, 82, 247, 10, 183, 139, 181, 163, 33, 193, 15, 94, 161, 171, 125, 189, 232, 15] : List UInt8).toArray⟩
def kb05 : ByteArray := ⟨([13, 159, 177, 75, 138, 133, 64, 21, 21, 222, 64, 45, 100, 135, 4, 111, 241, 88, 176, 188, 229, 250, 160, 46, 216, 199, 195, 167, 192, 1, 240, 9] : List UInt8).toArray⟩
def kb06 : ByteArray := ⟨([32, 185, 112, 104, 25, 177, 165, 130, 129, 107, 133, 222, 183, 101, 208, 64, 113, 232, 168, 192, 174, 142, 6, 45, 5, 19, 205, 136, 59, 27, 244, 235] : List UInt8).toArray⟩
def kb10 : ByteArray := ⟨([1, 122, 134, 68, 123, 64, 49, 49, 183, 219, 52, 57, 139, 78, 243, 231, 106, 217, 121, 34, 201, 132, 222, 70, 249, 166, 249, 31, 150, 240, 67, 200] ++ [16, 140, 137, 63, 208, 69, 185, 98, 157, 13, 207, 49, 117, 52, 61, 229, 170, 138, 228, 238, 155, 39, 217, 88, 120, 1, 224, 218, 130, 93, 238, 246] ++ [46, 164, 21] : List UInt8).toArray⟩
def kb11 : ByteArray := ⟨([3] : List UInt8).toArray⟩
def kb12 : ByteArray := ⟨([1, 230, 247, 14, 173, 227, 177, 202, 245, 202, 50, 186, 168, 165, 67, 87, 178, 49, 251, 192, 185, 194, 149, 158, 1, 103, 250, 108, 221, 169, 149, 10] ++ [255, 213] : List UInt8).toArray⟩
def kb13 : ByteArray := ⟨([198, 254, 3, 39, 149, 177, 0, 244, 149, 110, 219, 127, 191, 15, 194, 17, 85, 157, 31, 29, 23, 246, 166, 89, 152, 11, 127, 26, 1, 106, 27, 115] ++ [65] : List UInt8).toArray⟩
def kb14 : ByteArray := ⟨([1, 68, 164, 180, 115, 237, 33, 49, 249, 49, 119, 39, 27, 24, 215, 143, 204, 33, 82, 128, 123, 215, 14, 105, 86, 69, 81, 157, 233, 27, 184, 177] ++ [255, 227] : List UInt8).toArray⟩
def kb15 : ByteArray := ⟨([132, 169, 87, 111, 185, 32, 171, 77, 184, 244, 146, 85, 42, 10, 129, 96, 227, 190, 20, 190, 15, 249, 196, 59, 186, 178, 84, 188, 0, 241, 103, 162] ++ [43] : List UInt8).toArray⟩
def kb16 : ByteArray := ⟨([1, 125, 191, 69, 186, 85, 110, 224, 208, 89, 85, 247, 177, 112, 113, 24, 206, 73, 109, 52, 141, 237, 12, 12, 190, 27, 178, 75, 73, 34, 17, 34] ++ [16, 74] : List UInt8).toArray⟩
def kb20 : ByteArray := ⟨([3, 129, 233, 149, 194, 168, 107, 177, 156, 57, 142, 157, 44, 170, 17, 16, 137, 65, 216, 242, 250, 114, 99, 226, 39, 128, 203, 134, 26, 236, 109, 178] ++ [241, 144, 241, 235, 54, 91, 58, 134, 36, 242, 224, 124, 51, 118, 236, 94, 201, 70, 16, 51, 194, 210, 123, 238, 3, 163, 187, 236, 20, 145, 143, 122] ++ [108, 60, 79] : List UInt8).toArray⟩
def kb21 : ByteArray := ⟨([1, 0, 1] : List UInt8).toArray⟩
def kb22 : ByteArray := ⟨([1, 241, 137, 77, 200, 238, 171, 115, 88, 132, 54, 243, 138, 129, 38, 194, 21, 183, 197, 135, 10, 24, 93, 189, 219, 158, 18, 207, 204, 67, 13, 210] ++ [177, 127] : List UInt8).toArray⟩
def kb23 : ByteArray := ⟨([1, 206, 1, 243, 207, 144, 156, 171, 130, 198, 38, 130, 178, 34, 124, 217, 216, 102, 89, 161, 139, 79, 50, 227, 199, 188, 39, 197, 240, 107, 251, 179] ++ [61, 49] : List UInt8).toArray⟩
def kb24 : ByteArray := ⟨([209, 93, 15, 232, 111, 214, 161, 241, 43, 161, 220, 21, 250, 135, 14, 193, 8, 214, 12, 31, 73, 101, 153, 17, 35, 145, 146, 243, 199, 123, 183, 159] ++ [141] : List UInt8).toArray⟩
def kb25 : ByteArray := ⟨([1, 112, 81, 160, 36, 174, 190, 40, 1, 118, 165, 6, 246, 170, 133, 236, 74, 23, 182, 135, 17, 255, 142, 171, 134, 245, 90, 163, 243, 186, 178, 139] ++ [191, 81] : List UInt8).toArray⟩
def kb26 : ByteArray := ⟨([232, 190, 173, 149, 172, 246, 183, 177, 241, 136, 84, 168, 90, 125, 207, 222, 11, 197, 163, 244, 248, 104, 78, 13, 81, 8, 166, 172, 47, 157, 168, 244] ++ [183] : List UInt8).toArray⟩
def kb30 : ByteArray := ⟨([191, 130, 70, 157, 185, 251, 85, 117, 116, 92, 94, 28, 180, 182, 172, 114, 209, 100, 229, 122, 215, 87, 11, 190, 20, 27, 172, 11, 141, 35, 220, 176] ++ [78, 210, 244, 176, 35, 101, 67, 158, 53, 214, 64, 113, 223, 127, 237, 53, 74, 123, 61, 24, 238, 28, 233, 236, 118, 78, 200, 64, 104, 217, 233, 136] ++ [120, 199, 100, 24, 251, 38, 164, 22, 210, 231, 222, 53, 126, 49, 113, 125, 214, 45, 216, 46, 225, 241, 166, 11, 203, 135, 153, 218, 142, 53, 25, 43] : List UInt8).toArray⟩
def kb31 : ByteArray := ⟨([17] : List UInt8).toArray⟩
def kb32 : ByteArray := ⟨([216, 148, 116, 68, 124, 253, 72, 138, 79, 134, 187, 157, 78, 48, 17, 255, 175, 177, 34, 181, 162, 167, 212, 207, 174, 109, 34, 98, 48, 176, 235, 120] ++ [118, 95, 42, 231, 61, 106, 2, 212, 219, 32, 9, 151, 123, 216, 255, 243] : List UInt8).toArray⟩
def kb33 : ByteArray := ⟨([226, 93, 163, 43, 37, 148, 158, 5, 231, 129, 237, 15, 98, 223, 208, 147, 78, 163, 194, 205, 188, 63, 186, 143, 121, 140, 15, 20, 176, 248, 233, 198] ++ [71, 11, 178, 174, 63, 229, 59, 25, 123, 237, 26, 29, 248, 25, 135, 233] : List UInt8).toArray⟩
def kb34 : ByteArray := ⟨([101, 235, 130, 2, 28, 179, 109, 110, 67, 138, 178, 164, 97, 7, 143, 255, 218, 53, 61, 130, 166, 229, 145, 82, 172, 111, 151, 181, 188, 143, 125, 222] ++ [85, 210, 110, 138, 239, 185, 106, 190, 133, 60, 64, 191, 193, 207, 135, 129] : List UInt8).toArray⟩
def kb35 : ByteArray := ⟨([133, 40, 5, 160, 232, 238, 2, 154, 15, 181, 214, 189, 193, 176, 213, 11, 91, 111, 99, 136, 20, 97, 185, 9, 26, 82, 99, 57, 89, 10, 227, 222] ++ [11, 172, 135, 57, 82, 195, 19, 180, 163, 64, 45, 123, 10, 105, 95, 1] : List UInt8).toArray⟩
def kb36 : ByteArray := ⟨([188, 218, 110, 20, 49, 27, 238, 22, 223, 50, 159, 87, 19, 249, 39, 167, 128, 218, 104, 3, 46, 176, 209, 59, 178, 4, 84, 235, 14, 230, 68, 182] ++ [47, 106, 1, 238, 2, 235, 28, 153, 90, 19, 184, 40, 9, 121, 228, 2] : List UInt8).toArray⟩
def kb40 : ByteArray := ⟨([170, 146, 162, 70, 182, 234, 140, 61, 177, 169, 176, 144, 19, 137, 71, 192, 102, 36, 100, 207, 254, 60, 30, 73, 138, 187, 113, 154, 163, 236, 221, 152] ++ [45, 6, 140, 114, 22, 46, 39, 179, 199, 221, 243, 255, 228, 25, 93, 239, 66, 81, 79, 3, 132, 33, 169, 173, 4, 13, 159, 222, 125, 245, 210, 231] ++ [13, 155, 194, 150, 208, 167, 27, 107, 42, 196, 52, 20, 32, 25, 205, 123, 91, 12, 225, 198, 141, 255, 249, 24, 110, 113, 147, 240, 225, 7, 128, 117] ++ [51, 74, 30, 131, 102, 30, 204, 131, 66, 148, 230, 206, 126, 15, 73, 198, 25, 87, 38, 122, 173, 216, 213, 184, 128, 109, 166, 59, 78, 55, 191, 141] : List UInt8).toArray⟩
def kb41 : ByteArray := ⟨([1, 0, 1] : List UInt8).toArray⟩
def kb42 : ByteArray := ⟨([192, 221, 70, 158, 15, 10, 76, 216, 124, 192, 186, 53, 232, 122, 224, 6, 160, 232, 33, 161, 48, 73, 120, 84, 147, 42, 24, 241, 203, 95, 70, 11] ++ [90, 67, 222, 172, 172, 36, 244, 160, 248, 249, 94, 93, 80, 56, 45, 205, 252, 72, 177, 70, 148, 35, 44, 60, 0, 162, 88, 216, 209, 83, 127, 101] : List UInt8).toArray⟩
def kb43 : ByteArray := ⟨([226, 105, 62, 158, 200, 157, 91, 186, 239, 51, 255, 217, 22, 34, 20, 141, 17, 5, 142, 157, 92, 116, 234, 35, 101, 132, 36, 120, 24, 42, 250, 70] ++ [114, 248, 181, 154, 253, 101, 218, 104, 228, 82, 246, 50, 5, 214, 236, 206, 7, 85, 133, 152, 135, 163, 148, 32, 95, 82, 54, 72, 114, 71, 97, 9] : List UInt8).toArray⟩
def kb44 : ByteArray := ⟨([103, 165, 131, 17, 230, 91, 78, 184, 249, 50, 73, 224, 54, 179, 242, 57, 29, 184, 34, 122, 145, 140, 170, 82, 41, 84, 114, 91, 95, 68, 48, 76] ++ [97, 146, 31, 213, 4, 30, 72, 41, 74, 36, 25, 134, 100, 90, 12, 163, 170, 117, 22, 112, 43, 164, 75, 93, 99, 169, 219, 189, 137, 161, 41, 209] : List UInt8).toArray⟩
def kb45 : ByteArray := ⟨([3, 72, 47, 70, 49, 246, 69, 252, 33, 183, 137, 63, 230, 88, 60, 32, 7, 93, 35, 66, 24, 179, 1, 41, 222, 48, 218, 46, 123, 123, 52, 1] ++ [141, 109, 25, 132, 211, 163, 132, 84, 252, 234, 78, 243, 78, 174, 92, 228, 103, 170, 207, 178, 244, 84, 100, 179, 75, 110, 111, 167, 1, 49, 19, 177] : List UInt8).toArray⟩
def kb46 : ByteArray := ⟨([119, 27, 221, 81, 57, 132, 40, 100, 226, 228, 251, 132, 99, 93, 95, 13, 187, 236, 193, 142, 99, 117, 132, 42, 32, 68, 63, 13, 179, 177, 171, 246] ++ [215, 31, 198, 221, 93, 72, 95, 212, 243, 180, 107, 78, 168, 252, 220, 114, 164, 225, 195, 215, 10, 178, 99, 66, 71, 76, 49, 119, 140, 149, 37, 207] : List UInt8).toArray⟩
def kb : Nat → Nat → ByteArray
  | 0, 0 => kb00
  | 0, 1 => kb01
  | 0, 2 => kb02
  | 0, 3 => kb03
  | 0, 4 => kb04
  | 0, 5 => kb05
  | 0, 6 => kb06
  | 1, 0 => kb10
  | 1, 1 => kb11
  | 1, 2 => kb12
  | 1, 3 => kb13
  | 1, 4 => kb14
  | 1, 5 => kb15
  | 1, 6 => kb16
  | 2, 0 => kb20
  | 2, 1 => kb21
  | 2, 2 => kb22
  | 2, 3 => kb23
  | 2, 4 => kb24
  | 2, 5 => kb25
  | 2, 6 => kb26
  | 3, 0 => kb30
  | 3, 1 => kb31
  | 3, 2 => kb32
  | 3, 3 => kb33
  | 3, 4 => kb34
  | 3, 5 => kb35
  | 3, 6 => kb36
  | 4, 0 => kb40
  | 4, 1 => kb41
  | 4, 2 => kb42
  | 4, 3 => kb43
  | 4, 4 => kb44
  | 4, 5 => kb45
  | 4, 6 => kb46
  | _, _ => ⟨#[]⟩
end Go.Proofs.YtjkjlbchbbpmaaaGreatDoor
/- The reference's FromHex and Known (layers 1, 4): the walks. -/
namespace Go.Proofs.YtjkjlbchbbpmaaaGreatDoor
open Go.RowKit

set_option maxRecDepth 100000 in
theorem fromhex_any (b : ByteArray) (w : World) (hb : b.size ≤ 1000000) (hb1 : 0 < b.size) :
    Calls Tryz.prog 39 #[.string (hxS b)] w fun e w' => e = .returned (.tuple #[.string b, .int .i64 0]) ∧ Below w.heap.size w w' := by
  have hr := fun w => hexread_any b w hb hb1
  have hx := fun w => hex_any b w hb
  obtain ⟨S, hS⟩ : ∃ S, S = hxS b := ⟨_, rfl⟩
  rw [← hS] at hr hx ⊢
  have HR := Lib.hid hr; have HX := Lib.hid hx
  clear hr hx hS
  have hd : (S.toList != S.toList) = false := by simp
  go_enter Tryz.func39, Tryz.ntmps39
  go_wp2_with fail
  refine (HR.out _).mono ?_
  rintro e w1 ⟨rfl, hb1⟩
  go_wp2_with fail
  refine (HX.out _).mono ?_
  rintro e w2 ⟨rfl, hb2⟩
  have hres := hb1.trans (hb2.mono hb1.size)
  go_wp2_with fail
  go_ret2
  exact ⟨rfl, hres⟩

section
variable {ops : Array Oper} {Q : Exit → Act → World → Prop} {rest : List Oper} {a : Act} {w w0 : World} {o : Oper}
theorem wB_build {t : TypeId} {xs : List (Nat × Operand)} {cs : Array Value} (hgd : o.guard = none) (ho : o.op = .build t xs.toArray) (hb : Tryz.prog.built t (xs.map fun p => (p.1, a.eval p.2)) = some cs)
    (hK : wpList Tryz.prog ops Q rest (a.put o.dst (.agg cs)) w) : wpList Tryz.prog ops Q (o :: rest) a w :=
  wpList_plain hgd fun K hKK => by
    have h1 : (Instr.build t (xs.toArray.map fun p => (p.1, a.eval p.2))).run Tryz.prog w = .ok (.agg cs) w := run_build w t _ cs (by simpa using hb)
    unfold Oper.wp execOp
    simp only [ho]
    rw [Sem.run_bind, h1]
    exact hKK _ _ hK
end
/-- A row's texts, all rows' texts, a row's bytes. -/
def row7 (r : Nat) : Array Value := #[.string (hxS (kb r 0)), .string (hxS (kb r 1)), .string (hxS (kb r 2)), .string (hxS (kb r 3)), .string (hxS (kb r 4)), .string (hxS (kb r 5)), .string (hxS (kb r 6))]
def rowsV : Array Value := row7 0 ++ row7 1 ++ row7 2 ++ row7 3 ++ row7 4
def res7 (r : Nat) : Array Value := #[.string (kb r 0), .string (kb r 1), .string (kb r 2), .string (kb r 3), .string (kb r 4), .string (kb r 5), .string (kb r 6)]
theorem rowsV_at : ∀ r, r < 5 → ∀ k, k < 7 → rowsV[r * 7 + k]? = some (.string (hxS (kb r k))) := by
  intro r hr k hk
  rcases (by omega : r = 0 ∨ r = 1 ∨ r = 2 ∨ r = 3 ∨ r = 4) with rfl | rfl | rfl | rfl | rfl <;>
    rcases (by omega : k = 0 ∨ k = 1 ∨ k = 2 ∨ k = 3 ∨ k = 4 ∨ k = 5 ∨ k = 6) with rfl | rfl | rfl | rfl | rfl | rfl | rfl <;> rfl
def zrows : Array Value := (List.replicate 35 (Value.string ⟨#[]⟩)).toArray
def zrow : Array Value := #[.string ⟨#[]⟩, .string ⟨#[]⟩, .string ⟨#[]⟩, .string ⟨#[]⟩, .string ⟨#[]⟩, .string ⟨#[]⟩, .string ⟨#[]⟩]
theorem zero_rows (w : World) : (zeroValue 63).run Tryz.prog w = .ok (.agg zrows) w := by kernel_rfl
theorem zero_row (w : World) : (zeroValue 62).run Tryz.prog w = .ok (.agg zrow) w := by kernel_rfl
theorem zero_pair (w : World) : (zeroValue 35).run Tryz.prog w = .ok (.agg zrow) w := by kernel_rfl
theorem rows_info : (Tryz.prog.info? 63).map (·.size) = some 35 := by kernel_rfl
theorem row_info7 : (Tryz.prog.info? 62).map (·.size) = some 7 := by kernel_rfl
theorem pair_info7 : (Tryz.prog.info? 35).map (·.size) = some 7 := by kernel_rfl

def convK (r k : Nat) : Array Value := #[.string (if 0 < k then kb r 0 else ⟨#[]⟩), .string (if 1 < k then kb r 1 else ⟨#[]⟩), .string (if 2 < k then kb r 2 else ⟨#[]⟩), .string (if 3 < k then kb r 3 else ⟨#[]⟩), .string (if 4 < k then kb r 4 else ⟨#[]⟩), .string (if 5 < k then kb r 5 else ⟨#[]⟩), .string (if 6 < k then kb r 6 else ⟨#[]⟩)]
theorem convK_set (r : Nat) : ∀ k, k < 7 → (convK r k).setIfInBounds k (.string (kb r k)) = convK r (k + 1) := by
  intro k hk
  rcases (by omega : k = 0 ∨ k = 1 ∨ k = 2 ∨ k = 3 ∨ k = 4 ∨ k = 5 ∨ k = 6) with rfl | rfl | rfl | rfl | rfl | rfl | rfl <;> rfl
theorem kb_size : ∀ r, r < 5 → ∀ k, k < 7 → 0 < (kb r k).size ∧ (kb r k).size ≤ 128 := by
  intro r hr k hk
  rcases (by omega : r = 0 ∨ r = 1 ∨ r = 2 ∨ r = 3 ∨ r = 4) with rfl | rfl | rfl | rfl | rfl <;>
    rcases (by omega : k = 0 ∨ k = 1 ∨ k = 2 ∨ k = 3 ∨ k = 4 ∨ k = 5 ∨ k = 6) with rfl | rfl | rfl | rfl | rfl | rfl | rfl <;> (constructor <;> (simp only [kb]; decide +kernel))
theorem kb_le (r : Nat) (hr : r < 5) (k : Nat) (hk : k < 7) : (kb r k).size ≤ 1000000 := by have := (kb_size r hr k hk).2; omega
theorem kb_pos (r : Nat) (hr : r < 5) (k : Nat) (hk : k < 7) : 0 < (kb r k).size := (kb_size r hr k hk).1
theorem tmod5 {i : Int} {r : Nat} (hr : r < 5) (hi : (r : Int) = i % 5) : (i.tmod 5 < 0 ∧ -5 < i.tmod 5 ∧ i.tmod 5 + 5 = (r : Int)) ∨ (¬ i.tmod 5 < 0 ∧ i.tmod 5 = (r : Int)) := by
  rcases Int.le_total 0 i with h | h
  · rw [Int.tmod_eq_emod_of_nonneg h]; omega
  · have e := Int.neg_tmod (a := -i) (b := 5)
    rw [Int.neg_neg, Int.tmod_eq_emod_of_nonneg (a := -i) (b := 5) (by omega)] at e
    rw [e]; omega

set_option maxRecDepth 100000 in
set_option maxHeartbeats 3200000 in
theorem known_any (i : Int) (r : Nat) (hr : r < 5) (hi : (r : Int) = i % 5) (w : World) :
    Calls Tryz.prog 18 #[.int .i64 i] w fun e w' => e = .returned (.agg (res7 r)) ∧ Below w.heap.size w w' := by
  have ht := tmod5 hr hi
  have hcut4 : ∀ (k : Nat), k < 7 → (convK r k).setIfInBounds k (.string (kb r k)) = convK r (k + 1) := convK_set r
  have hcell : ∀ k, k < 7 → rowsV[r * 7 + k]? = some (.string (hxS (kb r k))) := rowsV_at r hr
  have hfrom : ∀ k, k < 7 → ∀ w, Calls Tryz.prog 39 #[.string (hxS (kb r k))] w fun e w' => e = .returned (.tuple #[.string (kb r k), .int .i64 0]) ∧ Below w.heap.size w w' := fun k hk w => fromhex_any (kb r k) w (kb_le r hr k hk) (kb_pos r hr k hk)
  have hend : convK r 7 = res7 r := rfl
  have hcs : ∀ k, (convK r k).size = 7 := fun k => rfl
  obtain ⟨q0, hq0⟩ : ∃ q, q = kb r 0 := ⟨_, rfl⟩
  obtain ⟨q1, hq1⟩ : ∃ q, q = kb r 1 := ⟨_, rfl⟩
  obtain ⟨q2, hq2⟩ : ∃ q, q = kb r 2 := ⟨_, rfl⟩
  obtain ⟨q3, hq3⟩ : ∃ q, q = kb r 3 := ⟨_, rfl⟩
  obtain ⟨q4, hq4⟩ : ∃ q, q = kb r 4 := ⟨_, rfl⟩
  obtain ⟨q5, hq5⟩ : ∃ q, q = kb r 5 := ⟨_, rfl⟩
  obtain ⟨q6, hq6⟩ : ∃ q, q = kb r 6 := ⟨_, rfl⟩
  have hres : res7 r = #[.string q0, .string q1, .string q2, .string q3, .string q4, .string q5, .string q6] := by rw [hq0, hq1, hq2, hq3, hq4, hq5, hq6]; rfl
  rw [hres] at hend ⊢
  have HCS := Lib.hid hcs; have HSET := Lib.hid hcut4; have HCELL := Lib.hid hcell; have HFROM := Lib.hid hfrom; have HEND := Lib.hid hend;
  have hz0 : zrow = convK r 0 := rfl
  have HZ0 := Lib.hid hz0
  clear hi hcut4 hcell hfrom hend hres hcs hz0 hq0 hq1 hq2 hq3 hq4 hq5 hq6
  have hR0 := Rws.start w
  go_enter Tryz.func18, Tryz.ntmps18
  go_upto_region 1 with (refine wpList_alloc_rws (cs := zrow) rfl _ (by rfl) (by assumption) zero_pair ?_; intro g2 w1 hR)
  simp only [Act.put, List.setIfInBounds_toArray, List.set_cons_succ, List.set_cons_zero]
  go_cut [3] (fun s3 wx => ∃ g3, s3 = .pointer (some ⟨g3, 0, none⟩) ∧ Rws w.heap.size w wx [(g3, rowsV, 63), (g2, zrow, 35)])
  case first =>
    go_wp2_with (first
      | (refine wpList_alloc_rws (cs := zrows) rfl _ (by rfl) (by assumption) zero_rows ?_; intro g3 w2 hR2)
      | (refine wpList_store_rws rfl _ _ _ (by rfl) (by assumption) _ rfl rowsV (by kernel_rfl) _ _ _ (by repeat (first | exact Pick.here | apply Pick.there)) (by kernel_rfl) (by kernel_rfl) (by kernel_rfl) ?_; intro w3 hR3))
    go_meet
    exact ⟨g3, rfl, hR3⟩
  case rest =>
    obtain ⟨g3, rfl, hR3⟩ := hcut
    clear hR hR0
    rcases ht with ⟨ht, hb1, ht2⟩ | ⟨ht, ht2⟩
    all_goals
      have HT := Lib.hid ht2
      clear ht2
      go_upto_region 5 with fail
      rw [HT.out]
      clear ht
      try clear hb1
      go_cut [4] (fun s4 wx => ∃ g4, s4 = .pointer (some ⟨g4, 0, none⟩) ∧ Rws w.heap.size w wx [(g4, zrow, 62), (g3, rowsV, 63), (g2, zrow, 35)])
      case first =>
        go_wp2_with (first
          | (refine wpList_alloc_rws (cs := zrow) rfl _ (by rfl) (by assumption) zero_row ?_; intro g4 w2 hR2)
          | (refine wpList_store_rws rfl _ _ _ (by rfl) (by assumption) _ rfl zrow (by kernel_rfl) _ _ _ (by repeat (first | exact Pick.here | apply Pick.there)) (by kernel_rfl) (by kernel_rfl) (by kernel_rfl) ?_; intro w3 hR3))
        simp only [Act.put, List.setIfInBounds_toArray, List.set_cons_succ, List.set_cons_zero]
        go_meet
        exact ⟨g4, rfl, hR3⟩
      case rest =>
        obtain ⟨g4, rfl, hR4⟩ := hcut
        clear hR3
        go_upto_region 7 with fail
        go_loopw [5] (fun kv wr => ∃ k : Nat, k ≤ 7 ∧ kv = .int .i64 k ∧ Rws w.heap.size w wr [(g4, convK r k, 62), (g3, rowsV, 63), (g2, zrow, 35)]) (fun kv _ => 7 - (intOf kv).toNat)
        case atStart => exact ⟨0, Nat.zero_le _, rfl, by rw [← HZ0.out]; exact hR4⟩
        case round =>
          clear hR4
          obtain ⟨k, hk, rfl, hR⟩ := hrel
          by_cases hk7 : k < 7
          · have hc := HCELL.out k hk7
            obtain ⟨S, hS⟩ : ∃ S, S = hxS (kb r k) := ⟨_, rfl⟩
            have hf := HFROM.out k hk7
            rw [← hS] at hc hf
            obtain ⟨v, hv⟩ : ∃ v, v = kb r k := ⟨_, rfl⟩
            have hs := HSET.out k hk7
            rw [← hv] at hf hs
            have cg : wr.cell? ⟨g3, r * 7 + k, none⟩ = some (.string S) := cell_of_row wr g3 _ _ _ _ (hR.row _ (List.Mem.tail _ (List.Mem.head _))).2 |>.trans hc
            have HF := Lib.hid hf; have HS := Lib.hid hs
            clear hc hf hs hS hv
            go_wp2_with fail
            refine (HF.out _).mono ?_
            rintro e w2 ⟨rfl, hb2⟩
            have hR2 := hR.call hb2
            clear hb2 cg
            go_wp2_with (refine wR_storec (k := k) (v := .string v) rfl (by rfl) (by assumption) rfl rfl (by repeat (first | exact Pick.here | apply Pick.there)) rfl (by kernel_rfl) (by rw [HCS.out]; exact hk7) rfl HS.out ?_; intro w3 hR3)
            go_roundw
            case rel => exact ⟨k + 1, by omega, by go_num, hR3⟩
            case measure => simp [intOf]; omega
          · obtain rfl : k = 7 := by omega
            rw [HEND.out] at hR
            have hin : (g4, (#[.string q0, .string q1, .string q2, .string q3, .string q4, .string q5, .string q6] : Array Value), 62) ∈ [(g4, (#[.string q0, .string q1, .string q2, .string q3, .string q4, .string q5, .string q6] : Array Value), 62), (g3, rowsV, 63), (g2, zrow, 35)] := List.Mem.head _
            have c0 : wr.cell? ⟨g4, 0, none⟩ = some (.string q0) := hR.cellAt hin 0 rfl
            have c1 : wr.cell? ⟨g4, 1, none⟩ = some (.string q1) := hR.cellAt hin 1 rfl
            have c2 : wr.cell? ⟨g4, 2, none⟩ = some (.string q2) := hR.cellAt hin 2 rfl
            have c3 : wr.cell? ⟨g4, 3, none⟩ = some (.string q3) := hR.cellAt hin 3 rfl
            have c4 : wr.cell? ⟨g4, 4, none⟩ = some (.string q4) := hR.cellAt hin 4 rfl
            have c5 : wr.cell? ⟨g4, 5, none⟩ = some (.string q5) := hR.cellAt hin 5 rfl
            have c6 : wr.cell? ⟨g4, 6, none⟩ = some (.string q6) := hR.cellAt hin 6 rfl
            clear hin
            go_wp2_with (refine wpList_store_rws rfl _ _ _ (by rfl) (by assumption) _ rfl #[.string q0, .string q1, .string q2, .string q3, .string q4, .string q5, .string q6] rfl _ _ _ (by repeat (first | exact Pick.here | apply Pick.there)) (by kernel_rfl) (by rfl) (by simp [Value.oneCell']) ?_; intro w3 hR3)
            simp only [Act.put]
            refine bodyPost_rws rfl (by assumption) g2 rfl #[.string q0, .string q1, .string q2, .string q3, .string q4, .string q5, .string q6] _ (by repeat (first | exact List.Mem.head _ | refine List.Mem.tail _ ?_)) _ Tryz.underlying35 rfl (by kernel_rfl) rfl ?_
            intro hb
            exact ⟨rfl, hb⟩
end Go.Proofs.YtjkjlbchbbpmaaaGreatDoor
