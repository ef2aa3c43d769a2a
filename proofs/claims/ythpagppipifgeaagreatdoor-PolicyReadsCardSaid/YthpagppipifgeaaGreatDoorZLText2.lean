/- policy.text: the walk of a node (the quoting of literals is given). -/
import Derived.Test.YthpagppipifgeaaGreatDoorZLText
import Derived.Deep.RegionHeld3
namespace Go.Proofs.YthpagppipifgeaaGreatDoor
open Go.RowKit

/-- The texts of a row's nodes so far, as cells. -/
def strC (l : List (List UInt8)) : List Value := l.map fun x => .string (bs x)
theorem info_str : (Tryz.prog.info? 9).map (fun i => (i.zero, i.size, i.bytes)) = some (some (.string ⟨#[]⟩), 1, 16) := by kernel_rfl

theorem join_any (g cap : Nat) (xs : List (List UInt8)) (sep : List UInt8) (w : World) (hc : ∀ j x, xs[j]? = some x → w.cell? ⟨g, j, none⟩ = some (.string (bs x))) (hg : g < w.heap.size) (hN : xs.length ≤ 1000000) (hcap : xs.length ≤ cap)
    (hsum : (xs.map List.length).sum + xs.length * 5 ≤ 210000000) (hsep : sep.length ≤ 5) :
    Calls Tryz.prog 39 #[.slice (some ⟨g, 0, none⟩) xs.length cap, .string (bs sep)] w (RetS (bs (Lib.join xs sep)) w) := by
  have he : (xs.map bs).map (fun x => x.data.toList) = xs := by
    rw [List.map_map]
    conv => rhs; rw [← List.map_id xs]
    exact List.map_congr_left fun x _ => by simp
  have hl : (xs.map bs).length = xs.length := List.length_map ..
  have hj := join_le xs sep
  have h5 : xs.length * sep.length ≤ xs.length * 5 := Nat.mul_le_mul_left _ hsep
  have hJ := Tryz.strings_Join g 0 cap (xs.map bs) (bs sep) w (fun j x hj => by
    rw [List.getElem?_map] at hj
    cases hx : xs[j]? with
    | none => rw [hx] at hj; cases hj
    | some y => rw [hx] at hj; cases hj; rw [Nat.zero_add]; exact hc j y hx) hg (by rw [hl]; omega) (by rw [hl]; exact hcap) (by rw [he, bs_data]; omega)
  rw [he, bs_data, hl] at hJ
  exact hJ
theorem own_below {B : Nat} {e : TypeId} {sz : Nat} {v : Value} {n : Nat} {xs : List Value} {w w' : World} (h : w.ownsRow B e sz v n xs) (hb : Below w.heap.size w w') : w'.ownsRow B e sz v n xs := by
  obtain ⟨h1, h2 | ⟨g, cap, cur, hv, hg, hh, r⟩⟩ := h
  · exact ⟨h1, Or.inl h2⟩
  · exact ⟨h1, Or.inr ⟨g, cap, cur, hv, hg, (hb.block g (Array.getElem?_eq_some_iff.1 hh).1).trans hh, r⟩⟩
theorem op_ix4 (w : World) : (Instr.index 64 (.agg #[.string ⟨#[]⟩, .string ⟨#[]⟩, .string ⟨#[]⟩, .string ⟨#[]⟩, .string ⟨#[105, 115]⟩, .string ⟨#[98, 101, 103, 105, 110, 115]⟩, .string ⟨#[104, 97, 115]⟩]) (.int .i64 4)).run Tryz.prog w = .ok (.string ⟨#[105, 115]⟩) w := by kernel_rfl
theorem op_ix5 (w : World) : (Instr.index 64 (.agg #[.string ⟨#[]⟩, .string ⟨#[]⟩, .string ⟨#[]⟩, .string ⟨#[]⟩, .string ⟨#[105, 115]⟩, .string ⟨#[98, 101, 103, 105, 110, 115]⟩, .string ⟨#[104, 97, 115]⟩]) (.int .i64 5)).run Tryz.prog w = .ok (.string ⟨#[98, 101, 103, 105, 110, 115]⟩) w := by kernel_rfl
theorem op_ix6 (w : World) : (Instr.index 64 (.agg #[.string ⟨#[]⟩, .string ⟨#[]⟩, .string ⟨#[]⟩, .string ⟨#[]⟩, .string ⟨#[105, 115]⟩, .string ⟨#[98, 101, 103, 105, 110, 115]⟩, .string ⟨#[104, 97, 115]⟩]) (.int .i64 6)).run Tryz.prog w = .ok (.string ⟨#[104, 97, 115]⟩) w := by kernel_rfl
set_option maxRecDepth 100000 in
set_option maxHeartbeats 4000000 in
theorem text_step (hN : NewOk) (hR : ReplOk) (F : Fo) (h : F.All TextAt) : TextAt F := by
  intro k o n t ad c w hm hc hs
  have hMX := MX_eq
  obtain ⟨hle, hcm, b, f, had, hrow⟩ := hs
  have hlc := Fo.len_cnt F
  obtain ⟨i0, hi, hz0, hz1, hz2⟩ := info_parts info_str
  have hgo : Below w.heap.size w (w.alloc (.cells #[.int .i64 k, .int .i64 o, .string n, .string t, .slice ad F.len c] 24)) := b_alloc w _
  have hHN := Lib.hid hN; have hHR := Lib.hid hR; have hHM := Lib.hid hm
  have hkc : ∀ G : Fo, True := fun _ => trivial
  clear hN hR hkc
  have hfm := may_nil hm
  go_enter Tryz.func25, Tryz.ntmps25
  go_upto_region 4 with fail
  obtain ⟨w0, hw0⟩ : ∃ w0, w0 = w.alloc (.cells #[.int .i64 k, .int .i64 o, .string n, .string t, .slice ad F.len c] 24) := ⟨_, rfl⟩
  rw [← hw0]
  rw [← hw0] at hgo
  have hcell : ∀ i v, (#[.int .i64 k, .int .i64 o, .string n, .string t, .slice ad F.len c] : Array Value)[i]? = some v → w0.cell? ⟨w.heap.size, i, none⟩ = some v := fun i v hv => by rw [hw0]; exact new_cell rfl _ _ i hv
  have hsz0 : w0.heap.size = w.heap.size + 1 := by rw [hw0]; simp
  clear hw0
  go_loopg [4, 12] F.len (fun gg s4 s12 wr => ∃ (kk : Nat) (G : Fo) (xs : List (List UInt8)) (v : Value), kk + G.len = F.len ∧ gg = G.len ∧ s4 = v ∧ s12 = .int .i64 kk ∧ xs.length = kk
    ∧ Aside (wr.ownsRow w0.heap.size 9 1 v kk (strC xs)) ∧ Aside (Below w0.heap.size w0 wr) ∧ Aside (Row w G b (f + 5 * kk)) ∧ Aside (G.All TextAt) ∧ Aside (xs ++ G.txs k = F.txs k) ∧ Aside (G.may = true ∨ G = .nil) ∧ Aside (G.cnt ≤ 1000000))
  case atStart => exact ⟨0, F, [], _, by omega, rfl, rfl, rfl, rfl, World.ownsRow_nil _ _ _ _, Below.refl _ _, hrow, h, rfl, hfm, hc⟩
  case round =>
    obtain ⟨kk, G, xs, v, hkk, rfl, rfl, rfl, hxl, HO, BW, HR, HP, HX, HMG, HCG⟩ := hrel
    cases G with
    | nil =>
      have hltz : ¬ (kk : Int) < (F.len : Int) := by simp only [Fo.len] at hkk; omega
      have hB0 : Below w.heap.size w wr := hgo.trans (BW.out.mono (by omega))
      have hbc : ∀ i v, (#[.int .i64 k, .int .i64 o, .string n, .string t, .slice ad F.len c] : Array Value)[i]? = some v → wr.cell? ⟨w.heap.size, i, none⟩ = some v := fun i v hv => (BW.out.cell (p := ⟨w.heap.size, i, none⟩) (by show w.heap.size < w0.heap.size; omega)).trans (hcell i v hv)
      have q0 : wr.cell? ⟨w.heap.size, 0, none⟩ = some (.int .i64 k) := hbc 0 _ rfl
      have q1 : wr.cell? ⟨w.heap.size, 1, none⟩ = some (.int .i64 o) := hbc 1 _ rfl
      have q2 : wr.cell? ⟨w.heap.size, 2, none⟩ = some (.string n) := hbc 2 _ rfl
      have q3 : wr.cell? ⟨w.heap.size, 3, none⟩ = some (.string t) := hbc 3 _ rfl
      have q4 : wr.cell? ⟨w.heap.size, 4, none⟩ = some (.slice ad F.len c) := hbc 4 _ rfl
      have hxe : xs = F.txs k := by have := HX.out; simpa [Fo.txs] using this
      have HXE := Lib.hid hxe
      have hkF : kk = F.len := by simp only [Fo.len] at hkk; omega
      subst hkF
      have hsum : (xs.map List.length).sum + xs.length * 5 ≤ 210000000 := by
        rcases hfm with h | h
        · have h1 := txs_le k F h
          rw [hxe, Fo.txs_len]; omega
        · rw [hxe, h]; simp [Fo.txs]
      have HSUM := Lib.hid hsum
      have HV : Hid (1 ≤ F.len → ∃ g cap, _ = Value.slice (some ⟨g, 0, none⟩) F.len cap ∧ w0.heap.size ≤ g ∧ g < wr.heap.size ∧ F.len ≤ cap ∧ ∀ j x, xs[j]? = some x → wr.cell? ⟨g, j, none⟩ = some (.string (bs x))) := Lib.hid fun h1 => by
        obtain ⟨hl1, ⟨_, h0⟩ | ⟨g, cap, cur, hv, hg, hh, hnc, hcm', hcs, htk⟩⟩ := HO.out
        · omega
        · refine ⟨g, cap, hv, hg, (Array.getElem?_eq_some_iff.1 hh).1, hnc, fun j x hj => ?_⟩
          have hj2 : (strC xs)[j]? = some (.string (bs x)) := by simp [strC, hj]
          have hjk : j < F.len := by rw [← hxl]; exact (List.getElem?_eq_some_iff.1 hj).1
          simp only [World.cell?, hh]
          rw [← htk, List.getElem?_take, if_pos (by omega)] at hj2
          simpa using hj2
      have hHCell := Lib.hid hbc
      clear hbc hxe hsum HO HP HR HX HMG HCG hcell hrow hfm
      by_cases k0 : k = 0
      · subst k0
        go_wp2_with fail
        go_ret
        exact ⟨rfl, hB0⟩
      by_cases k1 : k = 1
      · subst k1
        have hl1 : F.len = 1 := by
          have h := hHM.out
          unfold mayP nodeB at h
          simp at h
          omega
        obtain ⟨g, cap, rfl, hg, hgl, hcap, hcl⟩ := HV.out (by omega)
        obtain ⟨x0, hx0⟩ : ∃ x0, xs = [x0] := by
          match xs, hxl with
          | [x], _ => exact ⟨x, rfl⟩
          | [], h => simp at h; omega
          | _ :: _ :: _, h => simp at h; omega
        have hc0 := hcl 0 x0 (by rw [hx0]; rfl)
        have hxs : x0.length ≤ 1000000000 := by have := HSUM.out; rw [hx0] at this; simp at this; omega
        have n4 : ¬ 9223372036854775807 < 4 + (bs x0).size := by rw [bs_size]; omega
        have hkz : (0 : Int) < (F.len : Int) := by omega
        have HF : Hid (({ data := #[110, 111, 116, 32] } : ByteArray) ++ bs x0 = bs (sNotB ++ x0)) := Lib.hid (bs_app2 sNotB x0)
        have HX0 := Lib.hid hx0
        clear hcl hx0 hl1
        go_wp2_with fail
        go_ret
        refine ⟨?_, hB0⟩
        have e : textP 1 o n t F = sNotB ++ x0 := by unfold textP textN; rw [← HXE.out, HX0.out]; simp
        rw [e]
        exact congrArg (fun x => Ending.returned (.string x)) HF.out
      by_cases k2 : k = 2
      · subst k2
        have hl2 : 2 ≤ F.len := by
          have h := hHM.out
          unfold mayP nodeB at h
          simp at h
          omega
        obtain ⟨g, cap, rfl, hg, hgl, hcap, hcl⟩ := HV.out (by omega)
        obtain ⟨J, hJ0⟩ : ∃ J, J = Lib.join xs sAndB := ⟨_, rfl⟩
        have HJ : Hid (Calls Tryz.prog 39 #[.slice (some ⟨g, 0, none⟩) F.len cap, .string ⟨#[32, 97, 110, 100, 32]⟩] wr (RetS (bs J) wr)) := Lib.hid (by
          rw [hJ0, show (⟨#[32, 97, 110, 100, 32]⟩ : ByteArray) = bs sAndB from rfl]
          have := join_any g cap xs sAndB wr hcl hgl (by omega) (by omega) HSUM.out (by decide)
          rw [hxl] at this
          exact this)
        have HJ0 := Lib.hid hJ0
        clear hl2 hcl hJ0
        go_wp2_with (go_at_call 39; refine HJ.out.mono ?_; rintro e w2 ⟨rfl, hb2⟩)
        go_ret
        have e : textP 2 o n t F = J := by unfold textP textN; rw [← HXE.out, HJ0.out]; rfl
        rw [e]
        exact ⟨rfl, b_trans hB0 hb2⟩
      by_cases k3 : k = 3
      · subst k3
        have hl2 : 2 ≤ F.len := by
          have h := hHM.out
          unfold mayP nodeB at h
          simp at h
          omega
        obtain ⟨g, cap, rfl, hg, hgl, hcap, hcl⟩ := HV.out (by omega)
        obtain ⟨J, hJ0⟩ : ∃ J, J = Lib.join xs sOrB := ⟨_, rfl⟩
        have HJ : Hid (Calls Tryz.prog 39 #[.slice (some ⟨g, 0, none⟩) F.len cap, .string ⟨#[32, 111, 114, 32]⟩] wr (RetS (bs J) wr)) := Lib.hid (by
          rw [hJ0, show (⟨#[32, 111, 114, 32]⟩ : ByteArray) = bs sOrB from rfl]
          have := join_any g cap xs sOrB wr hcl hgl (by omega) (by omega) HSUM.out (by decide)
          rw [hxl] at this
          exact this)
        have HJ0 := Lib.hid hJ0
        clear hl2 hcl hJ0
        go_wp2_with (go_at_call 39; refine HJ.out.mono ?_; rintro e w2 ⟨rfl, hb2⟩)
        go_ret
        have e : textP 3 o n t F = J := by unfold textP textN; rw [← HXE.out, HJ0.out]; rfl
        rw [e]
        exact ⟨rfl, b_trans hB0 hb2⟩
      have hnd := hHM.out
      unfold mayP nodeB at hnd
      rw [if_neg k0, if_neg k1, if_neg (by omega)] at hnd
      have hk456 : k = 4 ∨ k = 5 ∨ k = 6 := by
        split at hnd
        · next h => exact h
        · cases hnd
      rw [if_pos hk456] at hnd
      simp only [Bool.and_eq_true, decide_eq_true_eq] at hnd
      obtain ⟨⟨⟨⟨hF0, ho0⟩, ho4⟩, _⟩, hlt⟩ := hnd
      have hnt : n.size ≤ 32 ∧ t.size ≤ 64 := by
        rcases node_sizes (show nodeB k o n t F.len F.may = true from hHM.out) with h | h
        · omega
        · exact h
      obtain ⟨L, hL⟩ : ∃ L, L = looksL o n.data.toList := ⟨_, rfl⟩
      have HLK : Hid (∀ w, Calls Tryz.prog 40 #[pv k o n t ad F.len c] w (RetS (bs L) w)) := Lib.hid fun w => by
        rw [hL]; exact looks_any k o n t ad F.len c w ho0 ho4 hnt.1
      have hLl : L.length ≤ 38 := by
        have h1 := looks_le o n.data.toList
        have z1 : n.data.toList.length = n.size := by simp
        rw [hL]; omega
      obtain ⟨Q, hQ⟩ : ∃ Q, Q = quoteL t.data.toList := ⟨_, rfl⟩
      have hQl : Q.length ≤ 128 := by
        have h1 := quote_le t.data.toList
        have z1 : t.data.toList.length = t.size := by simp
        rw [hQ]; omega
      have HRP : Hid (∀ rb w, RepAt rb w → Calls Tryz.prog 42 #[.pointer (some ⟨rb, 0, none⟩), .string t] w fun e w' => e = .returned (.string (bs Q)) ∧ Below rb w w') := Lib.hid fun rb w hr => by
        rw [hQ]; exact hHR.out rb t w hr hnt.2
      have htx : textP k o n t F = L ++ [32] ++ opL k ++ [32, 34] ++ Q ++ [34] := by
        unfold textP textN
        rw [if_neg k0, if_neg k1, if_neg k2, if_neg k3, hL, hQ]
      have HTX := Lib.hid htx
      have HLQ := Lib.hid (And.intro hL hQ)
      clear htx hL hQ HV HSUM hxl HXE
      have hix : ∀ w, (Instr.index 64 (.agg #[.string ⟨#[]⟩, .string ⟨#[]⟩, .string ⟨#[]⟩, .string ⟨#[]⟩, .string ⟨#[105, 115]⟩, .string ⟨#[98, 101, 103, 105, 110, 115]⟩, .string ⟨#[104, 97, 115]⟩]) (.int .i64 k)).run Tryz.prog w = .ok (.string (bs (opL k))) w := by
        rcases hk456 with rfl | rfl | rfl
        · exact op_ix4
        · exact op_ix5
        · exact op_ix6
      have hOl := op_le k
      generalize opL k = O at *
      have b4 : (k == 0) = false := by simp [k0]
      have b1 : (k == 1) = false := by simp [k1]
      have b2 : (k == 2) = false := by simp [k2]
      have b3 : (k == 3) = false := by simp [k3]
      have sL := bs_size L; have sO := bs_size O; have sQ := bs_size Q
      have m1 : ¬ 9223372036854775807 < L.length + 1 := by omega
      have m2 : ¬ 9223372036854775807 < L.length + 1 + O.length := by omega
      have m3 : ¬ 9223372036854775807 < L.length + 1 + O.length + 2 := by omega
      have m4 : ¬ 9223372036854775807 < L.length + 1 + O.length + 2 + Q.length := by omega
      have m5 : ¬ 9223372036854775807 < L.length + 1 + O.length + 2 + Q.length + 1 := by omega
      have hwl : w.heap.size < wr.heap.size := World.block_lt_of_cell? wr _ q0
      clear k0 k1 k2 k3 hk456
      go_upto_region 18 with fail
      have hS0 : wr.cell? ⟨w.heap.size, 0, none⟩ = some (.int .i64 k) ∧ wr.cell? ⟨w.heap.size, 1, none⟩ = some (.int .i64 o) ∧ wr.cell? ⟨w.heap.size, 2, none⟩ = some (.string n) ∧ wr.cell? ⟨w.heap.size, 3, none⟩ = some (.string t) ∧ wr.cell? ⟨w.heap.size, 4, none⟩ = some (.slice ad F.len c) := ⟨q0, q1, q2, q3, q4⟩
      have hSm : ∀ (N : Nat) (u u' : World), w.heap.size < N → (u.cell? ⟨w.heap.size, 0, none⟩ = some (.int .i64 k) ∧ u.cell? ⟨w.heap.size, 1, none⟩ = some (.int .i64 o) ∧ u.cell? ⟨w.heap.size, 2, none⟩ = some (.string n) ∧ u.cell? ⟨w.heap.size, 3, none⟩ = some (.string t) ∧ u.cell? ⟨w.heap.size, 4, none⟩ = some (.slice ad F.len c)) → Below N u u' →
          (u'.cell? ⟨w.heap.size, 0, none⟩ = some (.int .i64 k) ∧ u'.cell? ⟨w.heap.size, 1, none⟩ = some (.int .i64 o) ∧ u'.cell? ⟨w.heap.size, 2, none⟩ = some (.string n) ∧ u'.cell? ⟨w.heap.size, 3, none⟩ = some (.string t) ∧ u'.cell? ⟨w.heap.size, 4, none⟩ = some (.slice ad F.len c)) := fun N u u' hl h hb =>
        ⟨(hb.cell (p := ⟨w.heap.size, 0, none⟩) hl).trans h.1, (hb.cell (p := ⟨w.heap.size, 1, none⟩) hl).trans h.2.1, (hb.cell (p := ⟨w.heap.size, 2, none⟩) hl).trans h.2.2.1, (hb.cell (p := ⟨w.heap.size, 3, none⟩) hl).trans h.2.2.2.1, (hb.cell (p := ⟨w.heap.size, 4, none⟩) hl).trans h.2.2.2.2⟩
      have HSM := Lib.hid hSm
      have hS0d : wr.drew.cell? ⟨w.heap.size, 0, none⟩ = some (.int .i64 k) ∧ wr.drew.cell? ⟨w.heap.size, 1, none⟩ = some (.int .i64 o) ∧ wr.drew.cell? ⟨w.heap.size, 2, none⟩ = some (.string n) ∧ wr.drew.cell? ⟨w.heap.size, 3, none⟩ = some (.string t) ∧ wr.drew.cell? ⟨w.heap.size, 4, none⟩ = some (.slice ad F.len c) := hS0
      clear hSm q0 q1 q2 q3 q4 hF0 hlt ho4 ho0 hnt
      have hSB : ((wr.alloc (.cells #[.string ⟨#[34]⟩, .string ⟨#[92, 34]⟩, .string ⟨#[92]⟩, .string ⟨#[92, 92]⟩] 9)).drew.cell? ⟨w.heap.size, 0, none⟩ = some (.int .i64 k) ∧ (wr.alloc (.cells #[.string ⟨#[34]⟩, .string ⟨#[92, 34]⟩, .string ⟨#[92]⟩, .string ⟨#[92, 92]⟩] 9)).drew.cell? ⟨w.heap.size, 1, none⟩ = some (.int .i64 o) ∧ (wr.alloc (.cells #[.string ⟨#[34]⟩, .string ⟨#[92, 34]⟩, .string ⟨#[92]⟩, .string ⟨#[92, 92]⟩] 9)).drew.cell? ⟨w.heap.size, 2, none⟩ = some (.string n) ∧ (wr.alloc (.cells #[.string ⟨#[34]⟩, .string ⟨#[92, 34]⟩, .string ⟨#[92]⟩, .string ⟨#[92, 92]⟩] 9)).drew.cell? ⟨w.heap.size, 3, none⟩ = some (.string t) ∧ (wr.alloc (.cells #[.string ⟨#[34]⟩, .string ⟨#[92, 34]⟩, .string ⟨#[92]⟩, .string ⟨#[92, 92]⟩] 9)).drew.cell? ⟨w.heap.size, 4, none⟩ = some (.slice ad F.len c)) := HSM.out _ wr (wr.alloc (.cells #[.string ⟨#[34]⟩, .string ⟨#[92, 34]⟩, .string ⟨#[92]⟩, .string ⟨#[92, 92]⟩] 9)) hwl hS0 (b_alloc wr (.cells #[.string ⟨#[34]⟩, .string ⟨#[92, 34]⟩, .string ⟨#[92]⟩, .string ⟨#[92, 92]⟩] 9))
      have hwlB : w.heap.size < (wr.alloc (.cells #[.string ⟨#[34]⟩, .string ⟨#[92, 34]⟩, .string ⟨#[92]⟩, .string ⟨#[92, 92]⟩] 9)).drew.heap.size := Nat.lt_of_lt_of_le hwl (b_alloc wr (.cells #[.string ⟨#[34]⟩, .string ⟨#[92, 34]⟩, .string ⟨#[92]⟩, .string ⟨#[92, 92]⟩] 9)).size
      have hnB : (wr.alloc (.cells #[.string ⟨#[34]⟩, .string ⟨#[92, 34]⟩, .string ⟨#[92]⟩, .string ⟨#[92, 92]⟩] 9)).drew.heap[wr.heap.size]? = some (.cells #[.string ⟨#[34]⟩, .string ⟨#[92, 34]⟩, .string ⟨#[92]⟩, .string ⟨#[92, 92]⟩] 9 (0, 0)) := heap_alloc_new _ _
      have hnl : wr.heap.size < (wr.alloc (.cells #[.string ⟨#[34]⟩, .string ⟨#[92, 34]⟩, .string ⟨#[92]⟩, .string ⟨#[92, 92]⟩] 9)).drew.heap.size := (Array.getElem?_eq_some_iff.1 hnB).1
      have hbD : Below wr.heap.size wr (wr.alloc (.cells #[.string ⟨#[34]⟩, .string ⟨#[92, 34]⟩, .string ⟨#[92]⟩, .string ⟨#[92, 92]⟩] 9)).drew := (b_alloc wr (.cells #[.string ⟨#[34]⟩, .string ⟨#[92, 34]⟩, .string ⟨#[92]⟩, .string ⟨#[92, 92]⟩] 9)).drew
      have hbE : Below wr.heap.size wr wr.drew := (Below.refl _ wr).drew
      have HCAT : Hid (bs L ++ ({ data := #[32] } : ByteArray) ++ bs O ++ ({ data := #[32, 34] } : ByteArray) ++ bs Q ++ ({ data := #[34] } : ByteArray) = bs (textP k o n t F)) := Lib.hid (by
        rw [HTX.out, show ({ data := #[32] } : ByteArray) = bs [32] from rfl, show ({ data := #[32, 34] } : ByteArray) = bs [32, 34] from rfl, show ({ data := #[34] } : ByteArray) = bs [34] from rfl, bs_app2, bs_app2, bs_app2, bs_app2, bs_app2])
      have HZ : Hid (w.heap.size ≤ wr.heap.size ∧ Below w.heap.size w wr) := Lib.hid ⟨hB0.size, hB0⟩
      go_region_held3 (fun w' => w'.cell? ⟨w.heap.size, 0, none⟩ = some (.int .i64 k) ∧ w'.cell? ⟨w.heap.size, 1, none⟩ = some (.int .i64 o) ∧ w'.cell? ⟨w.heap.size, 2, none⟩ = some (.string n) ∧ w'.cell? ⟨w.heap.size, 3, none⟩ = some (.string t) ∧ w'.cell? ⟨w.heap.size, 4, none⟩ = some (.slice ad F.len c))
        (first | exact hS0d | exact hS0 | exact hSB | exact hS4 | exact hS3 | exact hSA | exact hS2)
        (first
          | (go_at_call 40; refine (HLK.out wr.drew).mono ?_; rintro e w2 ⟨rfl, hb2⟩; have hS2 := HSM.out _ wr.drew _ hwl hS0d hb2; have hwl2 := Nat.lt_of_lt_of_le hwl hb2.size; have hSA := HSM.out _ _ _ hwl2 hS2 (b_alloc _ (.cells #[.string ⟨#[34]⟩, .string ⟨#[92, 34]⟩, .string ⟨#[92]⟩, .string ⟨#[92, 92]⟩] 9)); have hwlA := Nat.lt_of_lt_of_le hwl2 (b_alloc w2 (.cells #[.string ⟨#[34]⟩, .string ⟨#[92, 34]⟩, .string ⟨#[92]⟩, .string ⟨#[92, 92]⟩] 9)).size; have hbA := b_trans (b_trans hbE hb2) (b_alloc w2 (.cells #[.string ⟨#[34]⟩, .string ⟨#[92, 34]⟩, .string ⟨#[92]⟩, .string ⟨#[92, 92]⟩] 9)))
          | (go_at_call 40; refine (HLK.out (wr.alloc (.cells #[.string ⟨#[34]⟩, .string ⟨#[92, 34]⟩, .string ⟨#[92]⟩, .string ⟨#[92, 92]⟩] 9)).drew).mono ?_; rintro e w2 ⟨rfl, hb2⟩; have hS2 := HSM.out _ (wr.alloc (.cells #[.string ⟨#[34]⟩, .string ⟨#[92, 34]⟩, .string ⟨#[92]⟩, .string ⟨#[92, 92]⟩] 9)).drew _ hwlB hSB hb2; have hwl2 := Nat.lt_of_lt_of_le hwlB hb2.size; have hn2 := (hb2.block _ hnl).trans hnB; have hbA := b_trans hbD hb2)
          | (go_at_call 41; refine (hHN.out _ _ ?_).mono ?_; exact hn2; rintro e w3 ⟨⟨rb, rfl, hrep, hrbl⟩, hb3⟩; have hS3 := HSM.out _ _ _ hwl2 hS2 hb3; have hwl4 := Nat.lt_of_lt_of_le hwl2 hrbl; have hbB := b_trans hbA hb3)
          | (go_at_call 41; refine (hHN.out _ _ ?_).mono ?_; exact heap_alloc_new _ _; rintro e w3 ⟨⟨rb, rfl, hrep, hrbl⟩, hb3⟩; have hS3 := HSM.out _ _ _ hwlA hSA hb3; have hwl4 := Nat.lt_of_lt_of_le hwlA hrbl; have hbB := b_trans hbA hb3)
          | (go_at_call 42; refine (HRP.out rb _ ?_).mono ?_; exact hrep; rintro e w4 ⟨rfl, hb4⟩; have hS4 := HSM.out _ _ _ hwl4 hS3 hb4))
      all_goals
        go_wp2_with fail
        go_ret
        refine ⟨congrArg (fun x => Ending.returned (.string x)) HCAT.out, ?_⟩
        have hbZ := b_trans HZ.out.2 hbB
        repeat (first | exact hbZ.trans (hb4.mono (Nat.le_of_lt hwl4)) | refine Below.drew ?_)
    | cons k1 o1 n1 t1 kids nx =>
      have hln : (Fo.cons k1 o1 n1 t1 kids nx).len = nx.len + 1 := rfl
      have hltz : (kk : Int) < (F.len : Int) := by omega
      have hBW0 : Below w.heap.size w wr := hgo.trans (BW.out.mono (by omega))
      obtain ⟨a1, c1, h0, h1, h2, h3, h4, r1, r2, hsl, _⟩ := (HR.out.below hBW0 (Nat.le_refl _)).kids
      obtain ⟨_, _, _, _, _, _, _, _, _, _, hrn⟩ := HR.out.kids
      obtain rfl : ad = some ⟨b, f, none⟩ := by rcases had with h | ⟨_, h⟩; exact h; omega
      rw [show f + 5 * kk = f + kk * 5 by omega] at h0 h1 h2 h3 h4
      obtain ⟨hp1, hpn⟩ := HP.out
      have hmg : nodeB k1 o1 n1 t1 kids.len kids.may = true ∧ nx.may = true := by
        rcases HMG.out with h | h
        · simpa [Fo.may] using h
        · cases h
      have hcn : kids.cnt + nx.cnt + 1 ≤ 1000000 := HCG.out
      have hbl := BW.out.size
      obtain ⟨T1, hT1⟩ : ∃ T1, T1 = wrapT k k1 (textP k1 o1 n1 t1 kids) := ⟨_, rfl⟩
      have HC : Hid (∀ w1, Below wr.heap.size wr w1 → Calls Tryz.prog 38 #[pv k1 o1 n1 t1 a1 kids.len c1, .pointer (some ⟨w.heap.size, 0, none⟩)] w1 (RetS (bs T1) w1)) := Lib.hid fun w1 hb => by
        have hbb := BW.out.trans (hb.mono hbl)
        rw [hT1]
        exact text1_any k kids hp1 k1 o1 n1 t1 a1 c1 w.heap.size w1 hmg.1 (by omega) (hsl.grown hb) (by have := hbb.size; omega) ((hbb.cell (p := ⟨w.heap.size, 0, none⟩) (by show w.heap.size < w0.heap.size; omega)).trans (hcell 0 _ rfl))
      have HTX : Hid (T1 :: nx.txs k = (Fo.cons k1 o1 n1 t1 kids nx).txs k) := by rw [hT1]; rfl
      have hPn : Aside _ := hpn; have hRn : Aside _ := hrn; have hMN : Aside _ := hmg.2
      have hkb : kk ≤ 1000000 := by omega
      have hHCell := Lib.hid hcell
      clear hpn hrn hsl hp1 HP HR hT1 hcell hmg
      go_wp2_with (first
        | (go_at_call 38; refine (HC.out _ (b_alloc _ _)).mono ?_; rintro e w1 ⟨rfl, hb⟩; have hb1 := b_call hb; have hown1 := own_below HO.out hb1)
        | (at_builtin; refine wpList_append_own _ rfl _ _ 43 rfl w0.heap.size 9 i0 (.string ⟨#[]⟩) 1 16 Tryz.underlying43 hi hz0 hz1 hz2 rfl (by decide) _ kk (strC xs) rfl (hown1.alloc _) ⟨w1.heap.size, 0, none⟩ 1 1 [.string (bs T1)] rfl rfl ?c1 ?c2 ?c3 (by omega) ?c5 ?_))
      case c1 =>
        intro j u hj
        match j, hj with
        | 0, hj => simp at hj; subst hj; simp [Addr.add]
      case c2 => intro u hu; simp at hu; subst hu; rfl
      case c3 => unfold maxLen; omega
      case c5 => have := hb1.size; simp; omega
      intro v' w2 hown' hgr _
      have hb2 : Below w0.heap.size w1 w2 := ((Below.refl w0.heap.size w1).alloc (by have := hb1.size; omega) _).grown hgr (by have := hb1.size; simp; omega) (fun q hq => (hown1.lt q hq).1)
      have hB2 : Below w0.heap.size w0 w2 := (BW.out.trans (hb1.mono hbl)).trans hb2
      have hR2 : Row w nx b (f + 5 * (kk + 1)) := by
        rw [show f + 5 * (kk + 1) = f + 5 * kk + 5 by omega]; exact hRn.out
      have hX2 : (xs ++ [T1]) ++ nx.txs k = F.txs k := by rw [← HX.out, ← HTX.out]; simp
      have hown2 : w2.ownsRow w0.heap.size 9 1 v' (kk + 1) (strC (xs ++ [T1])) := by
        rw [show strC (xs ++ [T1]) = strC xs ++ [.string (bs T1)] by simp [strC], hsz0]
        exact hown'
      have hcn2 : nx.cnt ≤ 1000000 := by omega
      have HALL := Lib.hid (And.intro hB2 (And.intro hR2 (And.intro hX2 hown2)))
      clear hB2 hR2 hX2 hown2 hown' hgr hb2
      go_wp2_with fail
      go_roundg nx.len
      case measure => omega
      case rel =>
        obtain ⟨y1, y2, y3, y4⟩ := HALL.out
        exact ⟨kk + 1, nx, xs ++ [T1], v', by omega, rfl, rfl, by go_num, by simp; omega, y4, y1, y2, hPn.out, y3, Or.inl hMN.out, hcn2⟩
theorem text_any (hN : NewOk) (hR : ReplOk) (F : Fo) : TextAt F := Fo.rec_all (text_step hN hR) F
end Go.Proofs.YthpagppipifgeaaGreatDoor
