/- ostiaryref15.readHead: the walk. -/
import Derived.Test.YtipjkjcmceeaeaaGreatDoorYRead
import Derived.Test.YtipjkjcmceeaeaaGreatDoorYGS3
import Derived.Test.YtipjkjcmceeaeaaGreatDoorYBack2
namespace Go.Proofs.YtipjkjcmceeaeaaGreatDoor
open Go.RowKit

def LenI (bl : Option Nat) (bi : Int) : Prop := (bl = none ∧ bi = -2) ∨ ∃ n : Nat, bl = some n ∧ n < 1000000000 ∧ (bi = n ∨ (bi = -1 ∧ n = 0))
def ReadRPost (s : Bs) (w : World) : Ending → World → Prop := fun e w' => ((∃ E, readH s = .error E ∧ e = .returned (.tuple #[.agg zQ, .int .i64 0, .int .i64 E])) ∨
  ∃ q bl ad c bi, readH s = .ok (q, bl) ∧ e = .returned (.tuple #[rqv q ad c, .int .i64 bi, .int .i64 0]) ∧ LenI bl bi ∧ LiesT w' q.hs ad ∧ q.hs.length ≤ c ∧ c ≤ MX ∧ q.hs.length ≤ 31) ∧ Below w.heap.size w w'
def lName : List UInt8 := [65, 66, 67, 68, 69, 70, 71, 72, 73, 74, 75, 76, 77, 78, 79, 80, 81, 82, 83, 84, 85, 86, 87, 88, 89, 90, 97, 98, 99, 100, 101, 102, 103, 104, 105, 106, 107, 108, 109, 110, 111, 112, 113, 114, 115, 116, 117, 118, 119, 120, 121, 122, 48, 49, 50, 51, 52, 53, 54, 55, 56, 57, 45]
def lDig : List UInt8 := [48, 49, 50, 51, 52, 53, 54, 55, 56, 57]
theorem has_name (c : UInt8) : lName.contains c = nmC c := every_byte (P := fun c => lName.contains c = nmC c) (by decide +kernel) c
theorem has_dig (c : UInt8) : lDig.contains c = dgC c := every_byte (P := fun c => lDig.contains c = dgC c) (by decide +kernel) c
theorem bld_rq (m t : ByteArray) (w : World) : (Instr.build 24 #[(0, .string m), (1, .string t)]).run Tryz.prog w = .ok (.agg #[.string m, .string t, .slice none 0 0, .string ⟨#[]⟩]) w := run_build w _ _ _ (by kernel_rfl)
theorem decV_take {V : Bs} {p : Nat} {c : UInt8} (hc : V[p]? = some c) : decV 0 (V.take (p + 1)) = 10 * decV 0 (V.take p) + (c.toNat - 48) := by
  obtain ⟨hp, rfl⟩ := List.getElem?_eq_some_iff.1 hc
  rw [List.take_succ_eq_append_getElem hp, decV_snoc]
theorem decV_lt : ∀ (l : Bs) (n : Nat), l.all dgC = true → decV n l < (n + 1) * 10 ^ l.length
  | [], n, _ => by show n < (n + 1) * 10 ^ 0; omega
  | c :: r, n, h => by
    rw [List.all_cons, Bool.and_eq_true] at h
    have h1 := decV_lt r (10 * n + (c.toNat - 48)) h.2
    have h2 : c.toNat - 48 ≤ 9 := by have := of_decide_eq_true h.1; omega
    show decV (10 * n + (c.toNat - 48)) r < _
    refine Nat.lt_of_lt_of_le h1 ?_
    rw [List.length_cons, Nat.pow_succ, Nat.mul_comm (10 ^ r.length), ← Nat.mul_assoc]
    exact Nat.mul_le_mul_right _ (by omega)
theorem all_take {p : UInt8 → Bool} {l : Bs} (h : l.all p = true) (k : Nat) : (l.take k).all p = true :=
  List.all_eq_true.2 fun x hx => List.all_eq_true.1 h x (List.mem_of_mem_take hx)
theorem decV_9 {V : Bs} (h : V.all dgC = true) (hl : V.length ≤ 9) (p : Nat) : decV 0 (V.take p) < 1000000000 := by
  have h1 := decV_lt (V.take p) 0 (all_take h p)
  have h2 : (V.take p).length ≤ 9 := by rw [List.length_take]; omega
  have h3 : 10 ^ (V.take p).length ≤ 10 ^ 9 := Nat.pow_le_pow_right (by decide) h2
  have h4 : (10 : Nat) ^ 9 = 1000000000 := rfl
  omega
set_option maxRecDepth 100000 in
set_option maxHeartbeats 8000000 in
theorem readR_any (s : Bs) (w : World) (hl : s.length ≤ 8192) : Calls Tryz.prog 34 #[.string (bs s)] w (ReadRPost s w) := by
  have hSB := SB_eq
  have hMX := MX_eq
  have hR := Rws.start w
  obtain ⟨ls, hls⟩ : ∃ ls, ls = splitS CRLF s := ⟨_, rfl⟩
  have HSP0 : ∀ u, Calls Tryz.prog 61 #[.string (bs s), .string ⟨#[13, 10]⟩] u (RetL ls u) := fun u => by rw [hls]; exact cutR_any s CRLF (by decide) u (by omega) (by decide)
  obtain ⟨n, hn⟩ : ∃ n, n = ls.length := ⟨_, rfl⟩
  have HSP : Hid (∀ u, Calls Tryz.prog 61 #[.string (bs s), .string ⟨#[13, 10]⟩] u fun e w' => ∃ ad c, e = .returned (.slice ad n c) ∧ SlC w' n (StC ls) ad c ∧ Below u.heap.size u w') := Lib.hid fun u => by rw [hn]; exact HSP0 u
  have hle : ∀ x, x ∈ ls → x.length ≤ s.length := by rw [hls]; exact (split_le (by decide)).1
  have hn1 : 1 ≤ n := by rw [hn, hls]; exact (split_le (by decide)).2.2
  have hnm : n ≤ 8193 := by
    have := (split_le (sep := CRLF) (s := s) (by decide)).2.1
    rw [← hls, ← hn] at this
    omega
  clear HSP0
  by_cases hlong : 33 < n
  · have z1 : (33 : Int) < (n : Int) := by omega
    have HRH : Hid (readH s = .error 152) := Lib.hid (by unfold readH; rw [← hls, ← hn, if_pos hlong])
    clear hls hn hlong hle
    go_enter Tryz.func34, Tryz.ntmps34
    go_upto_region 2 with (first
      | (refine wQ_alloc (cs := zQ) rfl _ (by rfl) (by exact hR) zero_rq ?_; intro g2 w1 hR hbw1 hgw1)
      | (go_at_call 61; refine (HSP.out _).mono ?_; rintro e w3 ⟨al, cl, rfl, hsl, hb3⟩; have hR := hR.call hb3))
    clear hbw1 hgw1 hb3
    go_upto_region 3 with fail
    go_wp2_with (refine wQ_store rfl _ _ _ (by rfl) (by exact hR) g2 rfl zQ (by rfl) _ _ _ (by repeat (first | exact Pick.here | apply Pick.there)) (by kernel_rfl) (by kernel_rfl) (by kernel_rfl) ?_; intro w20 hR hsmw20 hszw20)
    refine bodyPost_ctt rfl hR g2 rfl _ _ (by repeat (first | exact List.Mem.head _ | refine List.Mem.tail _ ?_)) _ Tryz.underlying24 rfl (by kernel_rfl) _ rfl _ rfl rfl (fun hbz => ?_)
    exact ⟨Or.inl ⟨152, HRH.out, rfl⟩, hbz⟩
  have z1 : ¬ (33 : Int) < (n : Int) := by omega
  obtain ⟨l0, r, hlr⟩ : ∃ l0 r, ls = l0 :: r := by
    cases ls with
    | nil => simp at hn; omega
    | cons a b => exact ⟨a, b, rfl⟩
  subst hlr
  have h33 : ¬ 33 < (l0 :: r).length := by rw [← hn]; exact hlong
  have hl0 := hle l0 (List.Mem.head _)
  have zl0 := bs_size l0
  obtain ⟨fs, hfs⟩ : ∃ fs, fs = splitS [32] l0 := ⟨_, rfl⟩
  have HSF0 : ∀ u, Calls Tryz.prog 61 #[.string (bs l0), .string ⟨#[32]⟩] u (RetL fs u) := fun u => by rw [hfs]; exact cutR_any l0 [32] (by decide) u (by omega) (by decide)
  obtain ⟨k3, hk3e⟩ : ∃ k3, k3 = fs.length := ⟨_, rfl⟩
  have hk3m : k3 ≤ 8193 := by
    have := (split_le (sep := [32]) (s := l0) (by decide)).2.1
    rw [← hfs, ← hk3e] at this; omega
  have HSF : Hid (∀ u, Calls Tryz.prog 61 #[.string (bs l0), .string ⟨#[32]⟩] u fun e w' => ∃ ad c, e = .returned (.slice ad k3 c) ∧ SlC w' k3 (StC fs) ad c ∧ Below u.heap.size u w') := Lib.hid fun u => by rw [hk3e]; exact HSF0 u
  clear HSF0
  by_cases hk3 : k3 = 3
  case neg =>
    have HRH : Hid (readH s = .error 151) := Lib.hid (read_first hls.symm h33 (by rw [← hfs, ← hk3e]; exact hk3))
    have zk : ((k3 : Int) != 3) = true := by simp; omega
    clear hls hn hlong h33 hfs hk3e hk3 hle
    go_enter Tryz.func34, Tryz.ntmps34
    go_upto_region 2 with (first
      | (refine wQ_alloc (cs := zQ) rfl _ (by rfl) (by exact hR) zero_rq ?_; intro g2 w1 hR hbw1 hgw1)
      | (go_at_call 61; refine (HSP.out _).mono ?_; rintro e w3 ⟨al, cl, rfl, hsl, hb3⟩; have hR := hR.call hb3))
    clear hbw1 hgw1 hb3
    obtain ⟨hlc, hcm, b, f, had, hrow⟩ := hsl
    obtain rfl : al = some ⟨b, f, none⟩ := by rcases had with h | ⟨_, h⟩; exact h; omega
    have c0 : w3.cell? ⟨b, f, none⟩ = some (.string (bs l0)) := hrow 0 _ rfl
    have HROW := Lib.hid hrow
    clear hrow had
    go_upto_region 5 with (go_at_call 61; refine (HSF.out _).mono ?_; rintro e w4 ⟨af, cf, rfl, hsf, hb4⟩; have hR := hR.call hb4)
    go_upto_region 6 with fail
    go_wp2_with (refine wQ_store rfl _ _ _ (by rfl) (by exact hR) g2 rfl zQ (by rfl) _ _ _ (by repeat (first | exact Pick.here | apply Pick.there)) (by kernel_rfl) (by kernel_rfl) (by kernel_rfl) ?_; intro w20 hR hsmw20 hszw20)
    refine bodyPost_ctt rfl hR g2 rfl _ _ (by repeat (first | exact List.Mem.head _ | refine List.Mem.tail _ ?_)) _ Tryz.underlying24 rfl (by kernel_rfl) _ rfl _ rfl rfl (fun hbz => ?_)
    exact ⟨Or.inl ⟨151, HRH.out, rfl⟩, hbz⟩
  subst hk3
  obtain ⟨m, t, v, hmtv⟩ : ∃ m t v, fs = [m, t, v] := by
    match fs, hk3e with
    | [a, b, c], _ => exact ⟨a, b, c, rfl⟩
  subst hmtv
  have HRV := Lib.hid (read_ver hls.symm h33 hfs.symm)
  have hfl := (split_le (sep := [32]) (s := l0) (by decide)).1
  rw [← hfs] at hfl
  have hml := hfl m (List.Mem.head _)
  have htl := hfl t (List.Mem.tail _ (List.Mem.head _))
  clear hfl hfs hk3e
  by_cases hv : v = wHttp
  case neg =>
    have zv : ((bs v).toList == [72, 84, 84, 80, 47, 49, 46, 49]) = false := by rw [bs_list, beqL]; exact decide_eq_false hv
    have HRH : Hid (readH s = .error 151) := Lib.hid (by rw [HRV.out, if_neg hv])
    clear hls hn hlong h33 hle hv HRV
    go_enter Tryz.func34, Tryz.ntmps34
    go_upto_region 2 with (first
      | (refine wQ_alloc (cs := zQ) rfl _ (by rfl) (by exact hR) zero_rq ?_; intro g2 w1 hR hbw1 hgw1)
      | (go_at_call 61; refine (HSP.out _).mono ?_; rintro e w3 ⟨al, cl, rfl, hsl, hb3⟩; have hR := hR.call hb3))
    clear hbw1 hgw1 hb3
    obtain ⟨hlc, hcm, b, f, had, hrow⟩ := hsl
    obtain rfl : al = some ⟨b, f, none⟩ := by rcases had with h | ⟨_, h⟩; exact h; omega
    have c0 : w3.cell? ⟨b, f, none⟩ = some (.string (bs l0)) := hrow 0 _ rfl
    have HROW := Lib.hid hrow
    clear hrow had
    go_upto_region 5 with (go_at_call 61; refine (HSF.out _).mono ?_; rintro e w4 ⟨af, cf, rfl, hsf, hb4⟩; have hR := hR.call hb4)
    obtain ⟨hlc2, hcm2, b2, f2, had2, hrow2⟩ := hsf
    obtain rfl : af = some ⟨b2, f2, none⟩ := by rcases had2 with h | ⟨_, h⟩; exact h; omega
    have d2 : w4.cell? ⟨b2, f2 + 2, none⟩ = some (.string (bs v)) := hrow2 2 _ rfl
    clear c0
    go_upto_region 6 with fail
    go_wp2_with (refine wQ_store rfl _ _ _ (by rfl) (by exact hR) g2 rfl zQ (by rfl) _ _ _ (by repeat (first | exact Pick.here | apply Pick.there)) (by kernel_rfl) (by kernel_rfl) (by kernel_rfl) ?_; intro w20 hR hsmw20 hszw20)
    refine bodyPost_ctt rfl hR g2 rfl _ _ (by repeat (first | exact List.Mem.head _ | refine List.Mem.tail _ ?_)) _ Tryz.underlying24 rfl (by kernel_rfl) _ rfl _ rfl rfl (fun hbz => ?_)
    exact ⟨Or.inl ⟨151, HRH.out, rfl⟩, hbz⟩
  have zv : ((bs v).toList == [72, 84, 84, 80, 47, 49, 46, 49]) = true := by rw [bs_list, hv]; rfl
  have HRL : Hid (readH s = readLines m t r) := Lib.hid (by rw [HRV.out, if_pos hv])
  have HLE := Lib.hid hle
  have HNR : Hid (n = r.length + 1) := Lib.hid hn
  clear hls hn hlong h33 hle hv HRV
  go_enter Tryz.func34, Tryz.ntmps34
  go_upto_region 2 with (first
    | (refine wQ_alloc (cs := zQ) rfl _ (by rfl) (by exact hR) zero_rq ?_; intro g2 w1 hR hbw1 hgw1)
    | (go_at_call 61; refine (HSP.out _).mono ?_; rintro e w3 ⟨al, cl, rfl, hsl, hb3⟩; have hR := hR.call hb3))
  clear hbw1 hgw1 hb3
  obtain ⟨hlc, hcm, b, f, had, hrow⟩ := hsl
  obtain rfl : al = some ⟨b, f, none⟩ := by rcases had with h | ⟨_, h⟩; exact h; omega
  have c0 : w3.cell? ⟨b, f, none⟩ = some (.string (bs l0)) := hrow 0 _ rfl
  have HROW := Lib.hid hrow
  clear hrow had
  go_upto_region 5 with (go_at_call 61; refine (HSF.out _).mono ?_; rintro e w4 ⟨af, cf, rfl, hsf, hb4⟩; have hR := hR.call hb4)
  obtain ⟨hlc2, hcm2, b2, f2, had2, hrow2⟩ := hsf
  obtain rfl : af = some ⟨b2, f2, none⟩ := by rcases had2 with h | ⟨_, h⟩; exact h; omega
  have d2 : w4.cell? ⟨b2, f2 + 2, none⟩ = some (.string (bs v)) := hrow2 2 _ rfl
  clear c0
  go_upto_region 7 with fail
  have HD0 : Hid (∀ u, Below w4.heap.size w4 u → u.cell? ⟨b2, f2 + 0 * 1, none⟩ = some (.string (bs m))) := Lib.hid fun u hb => (hb.cell (p := ⟨b2, f2 + 0, none⟩) (World.block_lt_of_cell? w4 _ (hrow2 0 _ rfl))).trans (hrow2 0 _ rfl)
  have HD1 : Hid (∀ u, Below w4.heap.size w4 u → u.cell? ⟨b2, f2 + 1 * 1, none⟩ = some (.string (bs t))) := Lib.hid fun u hb => (hb.cell (p := ⟨b2, f2 + 1, none⟩) (World.block_lt_of_cell? w4 _ (hrow2 1 _ rfl))).trans (hrow2 1 _ rfl)
  have HRW4 := Lib.hid (HROW.out.below hb4)
  have hblt : b < w4.heap.size := World.block_lt_of_cell? w4 ⟨b, f + 0, none⟩ (HRW4.out 0 _ rfl)
  clear d2 hrow2 HROW
  have HRS := Lib.hid hR
  refine wp_region_softG 8 (by kernel_rfl) (by kernel_rfl) (by rfl) hR ?_
  refine g_move (R := Is (.slice (some ⟨b2, f2, none⟩) 3 cf)) (by rfl) (stb_is _) (by exact fun _ _ _ h => h) ?_
  refine g_ixs (b := b2) (f := f2) (len := 3) (c := cf) (i := 0) (by rfl) (by exact fun _ _ _ h => h) (by exact fun _ _ _ h => h) (by decide) ?_
  refine g_cellw (g := b2) (k := f2 + 0 * 1) (v := .string (bs m)) (R := Is (.string (bs m))) (by rfl) (by exact fun _ _ _ h => h) (HD0.out) isAgg_str (stb_is _) (by exact fun _ _ => rfl) ?_
  refine g_move (R := Is (.slice (some ⟨b2, f2, none⟩) 3 cf)) (by rfl) (stb_is _) (by exact fun _ _ _ h => h) ?_
  refine g_ixs (b := b2) (f := f2) (len := 3) (c := cf) (i := 1) (by rfl) (by exact fun _ _ _ h => h) (by exact fun _ _ _ h => h) (by decide) ?_
  refine g_cellw (g := b2) (k := f2 + 1 * 1) (v := .string (bs t)) (R := Is (.string (bs t))) (by rfl) (by exact fun _ _ _ h => h) (HD1.out) isAgg_str (stb_is _) (by exact fun _ _ => rfl) ?_
  refine g_bld2 (t := 24) (v := .string (bs m)) (u := .string (bs t)) (r := .agg #[.string (bs m), .string (bs t), .slice none 0 0, .string ⟨#[]⟩]) (by rfl) (by exact fun _ _ _ h => h) (by exact fun _ _ _ h => h) (bld_rq _ _) ?_
  refine g_alloc (z := zQ) (by rfl) zero_rq ?_
  intro w9 hR9 hb9 v34 h34 v35 h35 v36 h36 v37 h37 v38 h38 v39 h39 v40 h40 v7 h7
  simp only [softEnd, Act.put, List.setIfInBounds_toArray, List.set_cons_succ, List.set_cons_zero, List.drop_succ_cons, List.drop_zero]
  obtain rfl : v40 = .agg #[.string (bs m), .string (bs t), .slice none 0 0, .string ⟨#[]⟩] := h40
  obtain ⟨g7, rfl, hg7, hh7⟩ := h7
  have hR := hR9.push HRS.out hg7 hh7
  clear h34 h35 h36 h37 h38 h39 hh7
  go_upto_region 9 with (refine wQ_store rfl _ _ _ (by rfl) (by exact hR) g7 rfl #[.string (bs m), .string (bs t), .slice none 0 0, .string ⟨#[]⟩] (by rfl) _ _ _ (by repeat (first | exact Pick.here | apply Pick.there)) (by kernel_rfl) (by kernel_rfl) (by kernel_rfl) ?_; intro w6 hR hsmw6 hszw6)
  have hbg : b ≠ g7 := by omega
  have HRW6 : Hid (RowC w6 (StC (l0 :: r)) b f) := Lib.hid (HRW4.out.same (by rw [hsmw6 b hbg, hb9.block b hblt]))
  clear hsmw6 hszw6 hR9 hb9 HRW4
  obtain ⟨B, hB⟩ : ∃ B, B = w6.heap.size := ⟨_, rfl⟩
  have hg2 : g2 < B := by rw [hB]; exact hR.lt (x := (g2, _, _)) (by repeat (first | exact List.Mem.head _ | refine List.Mem.tail _ ?_))
  have hg7 : g7 < B := by rw [hB]; exact hR.lt (x := (g7, _, _)) (by repeat (first | exact List.Mem.head _ | refine List.Mem.tail _ ?_))
  have hbB : b < B := by rw [hB]; exact World.block_lt_of_cell? w6 ⟨b, f + 0, none⟩ (HRW6.out 0 _ rfl)
  have HB0 : Hid (w.heap.size ≤ B) := Lib.hid (by rw [hB]; exact hR.len)
  have hr33 : r.length ≤ 32 := by have := HNR.out; omega
  have HBE := Lib.hid hB
  have HR6 := Lib.hid hR
  clear hR hB
  go_upto_region 10 with fail
  go_loopg [8, 9, 10] r.length (fun gg s8 s9 s10 wr => ∃ (i k : Nat) (hs : List Hd) (bl : Option Nat) (bi : Int) (hv : Value), i ≤ r.length ∧ gg = r.length - i ∧ s8 = .int .i64 bi ∧ s9 = .int .i64 (k : Nat) ∧ s10 = .int .i64 ((i + 1 : Nat) : Int) ∧ k ≤ i ∧ hs.length ≤ i ∧ Aside (LenI bl bi) ∧ Aside (readL (r.drop i) hs bl k = readL r [] (some 0) 0) ∧ Aside (OwnH B wr hv hs) ∧ Aside (Rws w.heap.size w wr [(g7, #[.string (bs m), .string (bs t), hv, .string ⟨#[]⟩], 24), (g2, zQ, 24)]) ∧ Aside (B ≤ wr.heap.size) ∧ Aside (∀ x, x ∈ hs → x.1.length ≤ 8192 ∧ x.2.length ≤ 8192) ∧ Aside (RowC wr (StC (l0 :: r)) b f))
  case atStart => exact ⟨0, 0, [], some 0, -1, .slice none 0 0, Nat.zero_le _, rfl, rfl, rfl, rfl, Nat.le_refl _, Nat.le_refl _, Or.inr ⟨0, rfl, by decide, Or.inr ⟨rfl, rfl⟩⟩, rfl, own_nil _ _ _ _, HR6.out, by rw [HBE.out]; exact Nat.le_refl _, (fun x hx => nomatch hx : ∀ x : Hd, x ∈ [] → x.1.length ≤ 8192 ∧ x.2.length ≤ 8192), HRW6.out⟩
  case round =>
    obtain ⟨i, k, hs, bl, bi, hv, hil, rfl, rfl, rfl, rfl, hki, hhi, HLI, HRD, HO, HRR, HBW, HSZ, HRW⟩ := hrel
    obtain ⟨ad, c, rfl, hslc⟩ := slc_of_own HO.out
    have hR := HRR.out
    have HSL := Lib.hid hslc
    clear hslc
    obtain ⟨j, hj⟩ : ∃ j, j = i + 1 := ⟨_, rfl⟩
    rw [← hj]
    have hj40 : j ≤ 40 := by omega
    have HJ := Lib.hid hj
    by_cases hlt : i < r.length
    · have hjn : j < n := by have := HNR.out; omega
      have hjz : (j : Int) < (n : Int) := by omega
      obtain ⟨x, hx⟩ : ∃ x, r[i]? = some x := ⟨r[i], List.getElem?_eq_getElem hlt⟩
      have HDR : Hid (r.drop i = x :: r.drop (i + 1)) := Lib.hid (by
        obtain ⟨hi, e⟩ := List.getElem?_eq_some_iff.1 hx
        rw [← e]; exact (List.drop_eq_getElem_cons hi))
      have hxl : x.length ≤ 8192 := by
        have := HLE.out x (List.mem_cons_of_mem _ (List.mem_of_getElem? hx))
        omega
      have f0 : wr.cell? ⟨b, f + j, none⟩ = some (.string (bs x)) := HRW.out j _ (by rw [hj]; simp [StC, hx])
      have HX : Hid (∀ u, Below wr.heap.size wr u → u.cell? ⟨b, f + j * 1, none⟩ = some (.string (bs x))) := Lib.hid fun u hb => by rw [Nat.mul_one]; exact (hb.cell (p := ⟨b, f + j, none⟩) (World.block_lt_of_cell? wr _ f0)).trans f0
      have zx := bs_size x
      have HFI0 : Hid (∀ u, Calls Tryz.prog 33 #[.string (bs x), .string ⟨#[58]⟩] u fun e w' => e = .returned (.int .i64 (Lib.index x [58])) ∧ w' = u) := Lib.hid fun u => find_any x [58] (by decide) u (by omega) (by decide)
      clear hx hj
      cases hcut : cutA [58] x with
      | none =>
        have HBAD : Hid (readH s = .error 151) := Lib.hid (by rw [HRL.out, readLines_none (by rw [← HRD.out, HDR.out, readL_bad (lineH_nc hcut)])])
        have HFI : Hid (∀ u, Calls Tryz.prog 33 #[.string (bs x), .string ⟨#[58]⟩] u fun e w' => e = .returned (.int .i64 (-1)) ∧ w' = u) := Lib.hid (by rw [← index_no hcut]; exact HFI0.out)
        clear hcut HFI0
        go_upto_region 14 with (first
          | (go_at_call 33; refine (HFI.out _).mono ?_; rintro e w7 ⟨rfl, rfl⟩))
        go_wp2_with (refine wQ_store rfl _ _ _ (by rfl) (by exact hR) g2 rfl zQ (by rfl) _ _ _ (by repeat (first | exact Pick.here | apply Pick.there)) (by kernel_rfl) (by kernel_rfl) (by kernel_rfl) ?_; intro w20 hR hsmw20 hszw20)
        refine bodyPost_ctt rfl hR g2 rfl _ _ (by repeat (first | exact List.Mem.head _ | refine List.Mem.tail _ ?_)) _ Tryz.underlying24 rfl (by kernel_rfl) _ rfl _ rfl rfl (fun hbz => ?_)
        exact ⟨Or.inl ⟨151, HBAD.out, rfl⟩, hbz⟩
      | some p =>
        obtain ⟨nm, vv⟩ := p
        obtain ⟨kk, hkk⟩ : ∃ kk, kk = nm.length := ⟨_, rfl⟩
        have HFI : Hid (∀ u, Calls Tryz.prog 33 #[.string (bs x), .string ⟨#[58]⟩] u fun e w' => e = .returned (.int .i64 (kk : Nat)) ∧ w' = u) := Lib.hid (by rw [hkk, ← index_cut hcut]; exact HFI0.out)
        have hxe := (cutA_some hcut).1
        have hkl : kk + 1 ≤ x.length := by rw [hxe, hkk]; simp only [List.length_append, List.length_cons, List.length_nil]; omega
        obtain ⟨k1, hk1⟩ : ∃ k1, k1 = kk + 1 := ⟨_, rfl⟩
        have hcT : x.take kk = nm := by rw [hxe, hkk, List.append_assoc]; exact List.take_left
        have hcD : x.drop k1 = vv := by rw [hxe, hk1, hkk]; rw [show nm.length + 1 = (nm ++ [58]).length by rw [List.length_append]; rfl]; exact List.drop_left
        have HK1 : Hid (∀ u, (binOp .add 3 (.int .i64 (kk : Nat)) (.int .i64 1)).run Tryz.prog u = .ok (.int .i64 (k1 : Nat)) u) := Lib.hid fun u => bin_addi kk 1 k1 hk1.symm (by omega) u
        have hnl := (cutA_le hcut).1
        have hvl := (cutA_le hcut).2
        have hkz : (kk : Int) ≤ (x.length : Int) := by omega
        have hkn : ¬ (kk : Int) < 0 := by omega
        have xn : (bs x).extract 0 kk = bs nm := by rw [bs_cut, List.drop_zero, hcT]
        have HOF0 : ∀ u, Calls Tryz.prog 49 #[.string (bs nm), .int .i64 1, .int .i64 64, .string ⟨#[65, 66, 67, 68, 69, 70, 71, 72, 73, 74, 75, 76, 77, 78, 79, 80, 81, 82, 83, 84, 85, 86, 87, 88, 89, 90, 97, 98, 99, 100, 101, 102, 103, 104, 105, 106, 107, 108, 109, 110, 111, 112, 113, 114, 115, 116, 117, 118, 119, 120, 121, 122, 48, 49, 50, 51, 52, 53, 54, 55, 56, 57, 45]⟩] u fun e w' => e = .returned (.bool (ofB 1 64 nmC nm)) ∧ w' = u := fun u => Of_any nm lName nmC has_name 1 64 u (by omega) (by decide)
        cases ho : ofB 1 64 nmC nm with
        | false =>
          rw [ho] at HOF0
          have HOF := Lib.hid HOF0
          have HBAD : Hid (readH s = .error 151) := Lib.hid (by rw [HRL.out, readLines_none (by rw [← HRD.out, HDR.out, readL_bad (lineH_bad hcut ho)])])
          clear hcut ho HOF0 hxe hkk hk1
          go_upto_region 14 with (first
            | (go_at_call 33; refine (HFI.out _).mono ?_; rintro e w7 ⟨rfl, rfl⟩)
            | (go_at_call 49; refine (HOF.out _).mono ?_; rintro e w8 ⟨rfl, rfl⟩))
          go_wp2_with (refine wQ_store rfl _ _ _ (by rfl) (by exact hR) g2 rfl zQ (by rfl) _ _ _ (by repeat (first | exact Pick.here | apply Pick.there)) (by kernel_rfl) (by kernel_rfl) (by kernel_rfl) ?_; intro w20 hR hsmw20 hszw20)
          refine bodyPost_ctt rfl hR g2 rfl _ _ (by repeat (first | exact List.Mem.head _ | refine List.Mem.tail _ ?_)) _ Tryz.underlying24 rfl (by kernel_rfl) _ rfl _ rfl rfl (fun hbz => ?_)
          exact ⟨Or.inl ⟨151, HBAD.out, rfl⟩, hbz⟩
        | true =>
          rw [ho] at HOF0
          have HOF := Lib.hid HOF0
          have HLX := Lib.hid (lineH_ok hcut ho)
          clear hcut ho HOF0 hxe hkk
          obtain ⟨N, hN⟩ : ∃ N, N = lowS nm := ⟨_, rfl⟩
          obtain ⟨V, hV⟩ : ∃ V, V = trimS vv := ⟨_, rfl⟩
          have hNl : N.length ≤ 8192 := by rw [hN]; unfold lowS; rw [List.length_map]; omega
          have hVl : V.length ≤ 8192 := by rw [hV]; have := trim_le vv; omega
          have HLO : Hid (∀ u, Below wr.heap.size wr u → Calls Tryz.prog 38 #[.string (bs nm)] u (RW (Is (.string (bs N))) u)) := Lib.hid fun u _ => by rw [hN]; exact (Lower_any nm u (by omega)).mono fun _ _ h => rw_below h
          have HTR : Hid (∀ u, Below wr.heap.size wr u → Calls Tryz.prog 62 #[.string (bs vv)] u (RW (Is (.string (bs V))) u)) := Lib.hid fun u _ => by rw [hV]; exact (trimmed_any vv u (by omega)).mono fun _ _ h => rw_same h
          rw [← hN, ← hV] at HLX
          have zN := bs_size N
          have zV := bs_size V
          have hkx : kk ≤ x.length ∧ k1 ≤ x.length := by omega
          clear hN hV hnl hvl hk1
          go_upto_region 15 with (first
            | (go_at_call 33; refine (HFI.out _).mono ?_; rintro e w7 ⟨rfl, rfl⟩)
            | (go_at_call 49; refine (HOF.out _).mono ?_; rintro e w8 ⟨rfl, rfl⟩))
          clear f0 xn
          have HRS := Lib.hid hR
          refine wp_region_softG 17 (by kernel_rfl) (by kernel_rfl) (by rfl) hR ?_
          refine g_move (R := Is (.slice (some ⟨b, f, none⟩) n cl)) (by rfl) (stb_is _) (by exact fun _ _ _ h => h) ?_
          refine g_move (R := Is (.int .i64 (j : Int))) (by rfl) (stb_is _) (by exact fun _ _ _ h => h) ?_
          refine g_ixs (b := b) (f := f) (len := n) (c := cl) (i := j) (by rfl) (by exact fun _ _ _ h => h) (by exact fun _ _ _ h => h) (hjn) ?_
          refine g_cellw (g := b) (k := f + j * 1) (v := .string (bs x)) (R := Is (.string (bs x))) (by rfl) (by exact fun _ _ _ h => h) (HX.out) isAgg_str (stb_is _) (by exact fun _ _ => rfl) ?_
          refine g_move (R := Is (.int .i64 (kk : Nat))) (by rfl) (stb_is _) (by exact fun _ _ _ h => h) ?_
          refine g_cutT (s := x) (k := kk) (by rfl) (by exact fun _ _ _ h => h) (by exact fun _ _ _ h => h) (by omega) ?_
          rw [hcT]
          refine g_callK (f := 38) (xs := [.tmp 70]) [.string (bs nm)] (R := Is (.string (bs N))) (by rfl) Tryz.func38 (by kernel_rfl) rfl (stb_is _) ⟨(by exact fun _ _ _ h => h), trivial⟩ (HLO.out) ?_
          refine g_move (R := Is (.slice (some ⟨b, f, none⟩) n cl)) (by rfl) (stb_is _) (by exact fun _ _ _ h => h) ?_
          refine g_move (R := Is (.int .i64 (j : Int))) (by rfl) (stb_is _) (by exact fun _ _ _ h => h) ?_
          refine g_ixs (b := b) (f := f) (len := n) (c := cl) (i := j) (by rfl) (by exact fun _ _ _ h => h) (by exact fun _ _ _ h => h) (hjn) ?_
          refine g_cellw (g := b) (k := f + j * 1) (v := .string (bs x)) (R := Is (.string (bs x))) (by rfl) (by exact fun _ _ _ h => h) (HX.out) isAgg_str (stb_is _) (by exact fun _ _ => rfl) ?_
          refine g_move (R := Is (.int .i64 (kk : Nat))) (by rfl) (stb_is _) (by exact fun _ _ _ h => h) ?_
          refine g_bin (v := .int .i64 (kk : Nat)) (u := .int .i64 1) (r := .int .i64 (k1 : Nat)) (by rfl) (by exact fun _ _ _ h => h) (by exact fun _ _ _ h => h) (by rfl) (HK1.out) ?_
          refine g_cutD (s := x) (k := k1) (by rfl) (by exact fun _ _ _ h => h) (by exact fun _ _ _ h => h) (by omega) ?_
          rw [hcD]
          refine g_callK (f := 62) (xs := [.tmp 78]) [.string (bs vv)] (R := Is (.string (bs V))) (by rfl) Tryz.func62 (by kernel_rfl) rfl (stb_is _) ⟨(by exact fun _ _ _ h => h), trivial⟩ (HTR.out) ?_
          refine g_bld2 (t := 52) (v := .string (bs N)) (u := .string (bs V)) (r := .agg #[.string (bs N), .string (bs V)]) (by rfl) (by exact fun _ _ _ h => h) (by exact fun _ _ _ h => h) (by exact fun w => run_build w _ _ _ (by kernel_rfl)) ?_
          refine g_alloc (z := zH) (by rfl) zero_hd ?_
          intro w9 hR9 hb9 v65 h65 v66 h66 v67 h67 v68 h68 v69 h69 v70 h70 v71 h71 v72 h72 v73 h73 v74 h74 v75 h75 v76 h76 v77 h77 v78 h78 v79 h79 v80 h80 v12 h12
          simp only [softEnd, Act.put, List.setIfInBounds_toArray, List.set_cons_succ, List.set_cons_zero, List.drop_succ_cons, List.drop_zero]
          obtain rfl : v80 = .agg #[.string (bs N), .string (bs V)] := h80
          obtain ⟨g12, rfl, hg12, hh12⟩ := h12
          have hR := hR9.push HRS.out hg12 hh12
          clear h65 h66 h67 h68 h69 h70 h71 h72 h73 h74 h75 h76 h77 h78 h79 hh12
          go_upto_region 16 with (refine wQ_store rfl _ _ _ (by rfl) (by exact hR) g12 rfl #[.string (bs N), .string (bs V)] (by rfl) _ _ _ (by repeat (first | exact Pick.here | apply Pick.there)) (by kernel_rfl) (by kernel_rfl) (by kernel_rfl) ?_; intro w11 hR hsmw11 hszw11)
          have hs9 := hb9.size
          have hkp : ∀ k, k ≠ g12 → k < w8.heap.size → w11.heap[k]? = w8.heap[k]? := fun k h1 h2 => by rw [hsmw11 k h1, hb9.block k h2]
          have HO11 : Hid (OwnH B w11 (.slice ad hs.length c) hs) := Lib.hid (own_old HO.out fun k _ hk => hkp k (by omega) hk)
          have HB11 : Hid (B ≤ w11.heap.size) := Lib.hid (by have := HBW.out; omega)
          have HRW11 : Hid (RowC w11 (StC (l0 :: r)) b f) := Lib.hid (HRW.out.same (hkp b (by have := HBW.out; omega) (by have := HBW.out; omega)))
          have hsz : ∀ y, y ∈ hs ++ [(N, V)] → y.1.length ≤ 8192 ∧ y.2.length ≤ 8192 := fun y hy => by
            rcases List.mem_append.1 hy with h | h
            · exact HSZ.out y h
            · obtain rfl := List.mem_singleton.1 h; exact ⟨hNl, hVl⟩
          have HSZ2 := Lib.hid hsz
          clear hcT hcD hkz hkn HX HFI HOF HLO HTR HK1 hkx hkl hjn hjz zx
          clear hsz hkp hs9 hsmw11 hszw11 hb9 hR9 hg12
          have n0 : w11.cell? ⟨g12, 0, none⟩ = some (.string (bs N)) := hR.cellAt (g := g12) (by repeat (first | exact List.Mem.head _ | refine List.Mem.tail _ ?_)) 0 rfl
          have n1 : w11.cell? ⟨g12, 1, none⟩ = some (.string (bs V)) := hR.cellAt (g := g12) (by repeat (first | exact List.Mem.head _ | refine List.Mem.tail _ ?_)) 1 rfl
          by_cases hCl : N = wCl
          · have q1 : ((bs N).toList == [99, 111, 110, 116, 101, 110, 116, 45, 108, 101, 110, 103, 116, 104]) = true := by rw [bs_list, hCl]; rfl
            have HOD0 : ∀ u, Calls Tryz.prog 49 #[.string (bs V), .int .i64 1, .int .i64 9, .string ⟨#[48, 49, 50, 51, 52, 53, 54, 55, 56, 57]⟩] u fun e w' => e = .returned (.bool (ofB 1 9 dgC V)) ∧ w' = u := fun u => Of_any V lDig dgC has_dig 1 9 u (by omega) (by decide)
            have hne : N ≠ wTe := by rw [hCl]; decide
            cases hd : ofB 1 9 dgC V with
            | false =>
              rw [hd] at HOD0
              have HOD := Lib.hid HOD0
              have hlf : lenF (N, V) = none := by unfold lenF; rw [if_neg hne, if_neg (fun h => by rw [hd] at h; cases h.1)]
              have HBAD : Hid (readH s = .error 151) := Lib.hid (by rw [HRL.out, readLines_none (by rw [← HRD.out, HDR.out, readL_len0 HLX.out (Or.inl hCl) hlf])])
              clear hCl hne hd HOD0 hlf
              go_upto_region 20 with (first
                | (go_at_call 49; refine (HOD.out _).mono ?_; rintro e w12 ⟨rfl, rfl⟩))
              go_wp2_with (refine wQ_store rfl _ _ _ (by rfl) (by exact hR) g2 rfl zQ (by rfl) _ _ _ (by repeat (first | exact Pick.here | apply Pick.there)) (by kernel_rfl) (by kernel_rfl) (by kernel_rfl) ?_; intro w20 hR hsmw20 hszw20)
              refine bodyPost_ctt rfl hR g2 rfl _ _ (by repeat (first | exact List.Mem.head _ | refine List.Mem.tail _ ?_)) _ Tryz.underlying24 rfl (by kernel_rfl) _ rfl _ rfl rfl (fun hbz => ?_)
              exact ⟨Or.inl ⟨151, HBAD.out, rfl⟩, hbz⟩
            | true =>
              rw [hd] at HOD0
              have HOD := Lib.hid HOD0
              obtain ⟨hall, hd1, hd9⟩ := ofB_all hd
              obtain ⟨y, V', hVe⟩ := List.exists_cons_of_ne_nil (show V ≠ [] by intro e; rw [e] at hd1; exact absurd hd1 (by decide))
              have hg0 := bs_get V 0 y (by rw [hVe]; rfl)
              have hV0 : (0 : Int) < (V.length : Int) := by omega
              by_cases hz : y = 48 ∧ 1 < V.length
              · have hyz : ((y.toNat : Int) == 48) = true := by rw [hz.1]; rfl
                have hl1 : (1 : Int) < (V.length : Int) := by have := hz.2; omega
                have hlf : lenF (N, V) = none := by
                  unfold lenF
                  rw [if_neg hne, if_neg (fun h => h.2 ⟨by rw [hVe, hz.1]; rfl, fun e => by have := hz.2; rw [show V = [48] from e] at this; exact absurd this (by decide)⟩)]
                have HBAD : Hid (readH s = .error 151) := Lib.hid (by rw [HRL.out, readLines_none (by rw [← HRD.out, HDR.out, readL_len0 HLX.out (Or.inl hCl) hlf])])
                clear hCl hne hd HOD0 hlf hz hVe hall
                go_upto_region 20 with (first
                  | (go_at_call 49; refine (HOD.out _).mono ?_; rintro e w12 ⟨rfl, rfl⟩))
                go_wp2_with (refine wQ_store rfl _ _ _ (by rfl) (by exact hR) g2 rfl zQ (by rfl) _ _ _ (by repeat (first | exact Pick.here | apply Pick.there)) (by kernel_rfl) (by kernel_rfl) (by kernel_rfl) ?_; intro w20 hR hsmw20 hszw20)
                refine bodyPost_ctt rfl hR g2 rfl _ _ (by repeat (first | exact List.Mem.head _ | refine List.Mem.tail _ ?_)) _ Tryz.underlying24 rfl (by kernel_rfl) _ rfl _ rfl rfl (fun hbz => ?_)
                exact ⟨Or.inl ⟨151, HBAD.out, rfl⟩, hbz⟩
              · have hlf : lenF (N, V) = some (some (decV 0 V)) := by
                  unfold lenF
                  rw [if_neg hne, if_pos ⟨hd, fun h => hz ⟨by
                    have := h.1
                    rw [hVe] at this
                    exact Option.some.inj this, by
                    rcases Nat.lt_or_ge 1 V.length with h1 | h1
                    · exact h1
                    · exfalso
                      have h2 : V' = [] := by
                        rw [hVe, List.length_cons] at h1
                        exact List.eq_nil_of_length_eq_zero (by omega)
                      have h3 := h.1
                      rw [hVe] at h3
                      exact h.2 (by rw [hVe, h2, Option.some.inj h3])⟩⟩]
                have HRD2 : Hid (readL (r.drop (i + 1)) hs (some (decV 0 V)) (k + 1) = readL r [] (some 0) 0) := Lib.hid (by rw [← HRD.out, HDR.out, readL_len HLX.out (Or.inl hCl) hlf])
                have HALL := Lib.hid hall
                have hcond : ((y.toNat : Int) == 48) = false ∨ (((y.toNat : Int) == 48) = true ∧ ¬ (1 : Int) < (V.length : Int)) := by
                  by_cases hy : y = 48
                  · exact Or.inr ⟨by rw [hy]; rfl, fun h => hz ⟨hy, by omega⟩⟩
                  · refine Or.inl ?_
                    have : y.toNat ≠ 48 := fun h => hy (UInt8.toNat_inj.1 (by simpa using h))
                    simp; omega
                clear hCl hne hd HOD0 hlf hz hVe hall
                rcases hcond with hyz | ⟨hyz, hl1⟩
                all_goals
                  go_upto_region 24 with (go_at_call 49; refine (HOD.out _).mono ?_; rintro e w12 ⟨rfl, rfl⟩)
                  clear n0 hg0
                  obtain ⟨wo, rfl⟩ : ∃ wo : World, wo = w12 := ⟨_, rfl⟩
                  go_loopg [8, 13] V.length (fun gg s8 s13 wx => ∃ p, p ≤ V.length ∧ gg = V.length - p ∧ s8 = .int .i64 ((decV 0 (V.take p) : Nat) : Int) ∧ s13 = .int .i64 (p : Nat) ∧ wx = wo)
                  case atStart => exact ⟨0, Nat.zero_le _, rfl, rfl, rfl, rfl⟩
                  case round =>
                    obtain ⟨p, hpl, rfl, rfl, rfl, rfl⟩ := hrel
                    obtain ⟨D, hD⟩ : ∃ D, D = decV 0 (V.take p) := ⟨_, rfl⟩
                    have hDl : D < 1000000000 := by rw [hD]; exact decV_9 HALL.out hd9 p
                    rw [← hD]
                    by_cases hpt : p < V.length
                    · have hptz : (p : Int) < (V.length : Int) := by omega
                      obtain ⟨y2, hy2⟩ : ∃ y2, V[p]? = some y2 := ⟨V[p], List.getElem?_eq_getElem hpt⟩
                      have hg2 := bs_get V p y2 hy2
                      have hdy := of_decide_eq_true (all_at HALL.out hy2)
                      obtain ⟨d2, hd2⟩ : ∃ d2, d2 = y2.toNat - 48 := ⟨_, rfl⟩
                      have hdz : ((y2.toNat : Int) - 48) % 256 = (d2 : Int) := by omega
                      have hdz2 : (y2.toNat : Int) - 48 = (d2 : Int) := by omega
                      have HD2 : Hid (decV 0 (V.take (p + 1)) = 10 * D + d2) := Lib.hid (by rw [decV_take hy2, hD, hd2])
                      have hd9b : d2 ≤ 9 := by omega
                      clear hy2 hD hd2 hdy
                      go_wp2_with fail
                      go_roundg (V.length - (p + 1))
                      case measure => omega
                      case rel => exact ⟨p + 1, by omega, rfl, by rw [HD2.out]; first | rfl | go_num | (congr 1; push_cast; omega) | (simp; omega), by go_num, rfl⟩
                    · have hptz : ¬ (p : Int) < (V.length : Int) := by omega
                      have HDE : Hid (D = decV 0 V) := Lib.hid (by rw [hD, List.take_of_length_le (by omega)])
                      have HO13 := Lib.hid HO11.out
                      have HB13 := Lib.hid HB11.out
                      have HRW13 := Lib.hid HRW11.out
                      have HR13 := Lib.hid (hR.sub (List.Sublist.cons _ (List.Sublist.refl _)))
                      go_wp2_with fail
                      go_roundg (r.length - (i + 1))
                      case measure => omega
                      case rel => exact ⟨i + 1, k + 1, hs, (some (decV 0 V)), (D : Int), .slice ad hs.length c, by omega, rfl, by go_num, by go_num, by rw [← HJ.out]; first | rfl | go_num, by omega, by omega, Or.inr ⟨decV 0 V, rfl, by have := decV_9 HALL.out hd9 V.length; rw [List.take_length] at this; exact this, Or.inl (by rw [HDE.out])⟩, HRD2.out, HO13.out, HR13.out, HB13.out, HSZ.out, HRW13.out⟩
          · have q1 : ((bs N).toList == [99, 111, 110, 116, 101, 110, 116, 45, 108, 101, 110, 103, 116, 104]) = false := by rw [bs_list, beqL]; exact decide_eq_false hCl
            by_cases hTe : N = wTe
            · have q2 : ((bs N).toList == [116, 114, 97, 110, 115, 102, 101, 114, 45, 101, 110, 99, 111, 100, 105, 110, 103]) = true := by rw [bs_list, hTe]; rfl
              obtain ⟨L, hL⟩ : ∃ L, L = lowS V := ⟨_, rfl⟩
              have HLV : Hid (∀ u, Calls Tryz.prog 38 #[.string (bs V)] u (RetS (bs L) u)) := Lib.hid fun u => by rw [hL]; exact Lower_any V u (by omega)
              by_cases hch : lowS V = wChunked
              · have q3 : ((bs L).toList == [99, 104, 117, 110, 107, 101, 100]) = true := by rw [bs_list, hL, hch]; rfl
                have hlf : lenF (N, V) = some none := by unfold lenF; rw [if_pos hTe, if_pos hch]
                have HRD2 : Hid (readL (r.drop (i + 1)) hs none (k + 1) = readL r [] (some 0) 0) := Lib.hid (by rw [← HRD.out, HDR.out, readL_len HLX.out (Or.inr hTe) hlf])
                clear hCl hTe hch hL hlf
                go_upto_region 30 with (go_at_call 38; refine (HLV.out _).mono ?_; rintro e w12 ⟨rfl, hb12⟩; have hR := hR.call hb12)
                have HO13 := Lib.hid (own_keep HO11.out hb12)
                have HB13 : Hid (B ≤ w12.heap.size) := Lib.hid (Nat.le_trans HB11.out hb12.size)
                have HRW13 := Lib.hid (HRW11.out.below hb12)
                have HR13 := Lib.hid (hR.sub (List.Sublist.cons _ (List.Sublist.refl _)))
                go_wp2_with fail
                go_roundg (r.length - (i + 1))
                case measure => omega
                case rel => exact ⟨i + 1, k + 1, hs, none, (-2), .slice ad hs.length c, by omega, rfl, by go_num, by go_num, by rw [← HJ.out]; first | rfl | go_num, by omega, by omega, Or.inl ⟨rfl, rfl⟩, HRD2.out, HO13.out, HR13.out, HB13.out, HSZ.out, HRW13.out⟩
              · have q3 : ((bs L).toList == [99, 104, 117, 110, 107, 101, 100]) = false := by rw [bs_list, beqL, hL]; exact decide_eq_false hch
                have hlf : lenF (N, V) = none := by unfold lenF; rw [if_pos hTe, if_neg hch]
                have HBAD : Hid (readH s = .error 151) := Lib.hid (by rw [HRL.out, readLines_none (by rw [← HRD.out, HDR.out, readL_len0 HLX.out (Or.inr hTe) hlf])])
                clear hCl hTe hch hL hlf
                go_upto_region 29 with (first
                  | (go_at_call 38; refine (HLV.out _).mono ?_; rintro e w12 ⟨rfl, hb12⟩; have hR := hR.call hb12))
                go_wp2_with (refine wQ_store rfl _ _ _ (by rfl) (by exact hR) g2 rfl zQ (by rfl) _ _ _ (by repeat (first | exact Pick.here | apply Pick.there)) (by kernel_rfl) (by kernel_rfl) (by kernel_rfl) ?_; intro w20 hR hsmw20 hszw20)
                refine bodyPost_ctt rfl hR g2 rfl _ _ (by repeat (first | exact List.Mem.head _ | refine List.Mem.tail _ ?_)) _ Tryz.underlying24 rfl (by kernel_rfl) _ rfl _ rfl rfl (fun hbz => ?_)
                exact ⟨Or.inl ⟨151, HBAD.out, rfl⟩, hbz⟩
            · have q2 : ((bs N).toList == [116, 114, 97, 110, 115, 102, 101, 114, 45, 101, 110, 99, 111, 100, 105, 110, 103]) = false := by rw [bs_list, beqL]; exact decide_eq_false hTe
              have HRD2 : Hid (readL (r.drop (i + 1)) (hs ++ [(N, V)]) bl k = readL r [] (some 0) 0) := Lib.hid (by rw [← HRD.out, HDR.out, readL_head HLX.out (by rintro (h | h); exact hCl h; exact hTe h)])
              have n2 : w11.cell? ⟨g7, 2, none⟩ = some (.slice ad hs.length c) := hR.cellAt (g := g7) (by repeat (first | exact List.Mem.head _ | refine List.Mem.tail _ ?_)) 2 rfl
              have hk : hs.length + 1 ≤ 3000000 := by omega
              have HLT : Hid (∀ y, y ∈ ([(g7, #[.string (bs m), .string (bs t), .slice ad hs.length c, .string ⟨#[]⟩], 24), (g2, zQ, 24)] : List (Nat × Array Value × TypeId)) → y.1 < B) := Lib.hid fun y hy => by
                rcases List.mem_cons.1 hy with rfl | hy
                · exact hg7
                obtain rfl := List.mem_singleton.1 hy
                exact hg2
              clear hCl hTe
              go_upto_region 11 with (first
                | (refine wpList_load_rws rfl _ _ (by rfl) (by exact hR) g12 rfl _ _ (by repeat (first | exact List.Mem.head _ | refine List.Mem.tail _ ?_)) _ Tryz.underlying52 rfl (by kernel_rfl) ?_)
                | (at_builtin; refine wp_snocH rfl _ _ (by rfl) (N, V) (by rfl) (by rfl) HO11.out HB11.out (Below.refl _ _) hk ?_; intro v' w12 hO2 hB2; obtain ⟨ad2, c2, rfl, _⟩ := slc_of_own hO2; have hR := Rws.low (hR.sub (List.Sublist.cons _ (List.Sublist.refl _))) HLT.out HB0.out hB2)
                | (refine wS_storec (g := g7) (k := 2) rfl (by rfl) (by exact hR) rfl rfl (by repeat (first | exact Pick.here | apply Pick.there)) rfl (by kernel_rfl) (by exact (show 2 < 4 by decide)) (by rfl) rfl ?_; intro w13 hR hsm13 hsz13))
              have HO13 : Hid (OwnH B w13 (.slice ad2 (hs ++ [(N, V)]).length c2) (hs ++ [(N, V)])) := Lib.hid (own_old hO2 fun k hBk hk => hsm13 k (by omega))
              have HB13 : Hid (B ≤ w13.heap.size) := Lib.hid (by have := HB11.out; have := hB2.size; omega)
              have HRW13 : Hid (RowC w13 (StC (l0 :: r)) b f) := Lib.hid (HRW11.out.same (by rw [hsm13 b (by omega), hB2.block b hbB]))
              have hR13 : Rws w.heap.size w w13 [(g7, #[.string (bs m), .string (bs t), .slice ad2 (hs ++ [(N, V)]).length c2, .string ⟨#[]⟩], 24), (g2, zQ, 24)] := by
                first
                  | exact hR
                  | (rw [show (hs ++ [(N, V)]).length = hs.length + 1 by rw [List.length_append]; rfl]; exact hR)
              have HR13 := Lib.hid hR13
              go_wp2_with fail
              go_roundg (r.length - (i + 1))
              case measure => omega
              case rel => exact ⟨i + 1, k, hs ++ [(N, V)], bl, bi, .slice ad2 (hs ++ [(N, V)]).length c2, by omega, rfl, rfl, rfl, by rw [← HJ.out]; first | rfl | go_num, by omega, by rw [List.length_append]; simp; omega, HLI.out, HRD2.out, HO13.out, HR13.out, HB13.out, HSZ2.out, HRW13.out⟩
    · have hjz : ¬ (j : Int) < (n : Int) := by have := HNR.out; omega
      have HEX : Hid (readH s = if 1 < k ∨ 31 < hs.length ∨ formB ⟨m, t, hs, []⟩ = false then .error 151 else .ok (⟨m, t, hs, []⟩, bl)) := Lib.hid (by
        rw [HRL.out]
        unfold readLines
        rw [← HRD.out, List.drop_of_length_le (by omega)]
        rfl)
      clear hj
      by_cases hk1 : 1 < k
      · have hk1z : (1 : Int) < (k : Int) := by omega
        have HBAD : Hid (readH s = .error 151) := Lib.hid (by rw [HEX.out, if_pos (Or.inl hk1)])
        clear hk1 HEX
        go_upto_region 33 with fail
        go_wp2_with (refine wQ_store rfl _ _ _ (by rfl) (by exact hR) g2 rfl zQ (by rfl) _ _ _ (by repeat (first | exact Pick.here | apply Pick.there)) (by kernel_rfl) (by kernel_rfl) (by kernel_rfl) ?_; intro w20 hR hsmw20 hszw20)
        refine bodyPost_ctt rfl hR g2 rfl _ _ (by repeat (first | exact List.Mem.head _ | refine List.Mem.tail _ ?_)) _ Tryz.underlying24 rfl (by kernel_rfl) _ rfl _ rfl rfl (fun hbz => ?_)
        exact ⟨Or.inl ⟨151, HBAD.out, rfl⟩, hbz⟩
      have hk1z : ¬ (1 : Int) < (k : Int) := by omega
      have n2 : wr.cell? ⟨g7, 2, none⟩ = some (.slice ad hs.length c) := hR.cellAt (g := g7) (by repeat (first | exact List.Mem.head _ | refine List.Mem.tail _ ?_)) 2 rfl
      by_cases h31 : 31 < hs.length
      · have h31z : (31 : Int) < (hs.length : Int) := by omega
        have HBAD : Hid (readH s = .error 151) := Lib.hid (by rw [HEX.out, if_pos (Or.inr (Or.inl h31))])
        clear h31 hk1 HEX
        go_upto_region 35 with fail
        go_wp2_with (refine wQ_store rfl _ _ _ (by rfl) (by exact hR) g2 rfl zQ (by rfl) _ _ _ (by repeat (first | exact Pick.here | apply Pick.there)) (by kernel_rfl) (by kernel_rfl) (by kernel_rfl) ?_; intro w20 hR hsmw20 hszw20)
        refine bodyPost_ctt rfl hR g2 rfl _ _ (by repeat (first | exact List.Mem.head _ | refine List.Mem.tail _ ?_)) _ Tryz.underlying24 rfl (by kernel_rfl) _ rfl _ rfl rfl (fun hbz => ?_)
        exact ⟨Or.inl ⟨151, HBAD.out, rfl⟩, hbz⟩
      have h31z : ¬ (31 : Int) < (hs.length : Int) := by omega
      have p0 : wr.cell? ⟨g7, 0, none⟩ = some (.string (bs m)) := hR.cellAt (g := g7) (by repeat (first | exact List.Mem.head _ | refine List.Mem.tail _ ?_)) 0 rfl
      have p1 : wr.cell? ⟨g7, 1, none⟩ = some (.string (bs t)) := hR.cellAt (g := g7) (by repeat (first | exact List.Mem.head _ | refine List.Mem.tail _ ?_)) 1 rfl
      have p3 : wr.cell? ⟨g7, 3, none⟩ = some (.string ⟨#[]⟩) := hR.cellAt (g := g7) (by repeat (first | exact List.Mem.head _ | refine List.Mem.tail _ ?_)) 3 rfl
      have HFM0 : ∀ u, Below wr.heap.size wr u → Calls Tryz.prog 52 #[.agg #[.string (bs m), .string (bs t), .slice ad hs.length c, .string ⟨#[]⟩]] u (RetB (formB ⟨m, t, hs, []⟩) u) := fun u hb => formR_any ⟨m, t, hs, []⟩ ad c u (HSL.out.grown hb) (small_read (by omega) (by omega) HSZ.out (by omega))
      have H31 := Lib.hid (show hs.length ≤ 31 by omega)
      cases hf : formB ⟨m, t, hs, []⟩ with
      | false =>
        rw [hf] at HFM0
        have HFM := Lib.hid HFM0
        have HBAD : Hid (readH s = .error 151) := Lib.hid (by rw [HEX.out, if_pos (Or.inr (Or.inr hf))])
        clear hf HEX hk1 h31 HFM0
        go_upto_region 35 with (first
          | (go_at_call 52; refine (HFM.out _ (Below.refl _ _)).mono ?_; rintro e w14 ⟨rfl, hb14⟩; have hR := hR.call hb14))
        go_wp2_with (refine wQ_store rfl _ _ _ (by rfl) (by exact hR) g2 rfl zQ (by rfl) _ _ _ (by repeat (first | exact Pick.here | apply Pick.there)) (by kernel_rfl) (by kernel_rfl) (by kernel_rfl) ?_; intro w20 hR hsmw20 hszw20)
        refine bodyPost_ctt rfl hR g2 rfl _ _ (by repeat (first | exact List.Mem.head _ | refine List.Mem.tail _ ?_)) _ Tryz.underlying24 rfl (by kernel_rfl) _ rfl _ rfl rfl (fun hbz => ?_)
        exact ⟨Or.inl ⟨151, HBAD.out, rfl⟩, hbz⟩
      | true =>
        rw [hf] at HFM0
        have HFM := Lib.hid HFM0
        have HOK : Hid (readH s = .ok (⟨m, t, hs, []⟩, bl)) := Lib.hid (by rw [HEX.out, if_neg (by rintro (h | h | h); exact hk1 h; exact h31 h; rw [hf] at h; cases h)])
        clear hf HEX hk1 h31 HFM0
        go_upto_region 36 with (go_at_call 52; refine (HFM.out _ (Below.refl _ _)).mono ?_; rintro e w14 ⟨rfl, hb14⟩; have hR := hR.call hb14)
        have HLT14 := Lib.hid ((lies_of_own HO.out).old (fun k hk => hb14.block k hk))
        have HG14 := Lib.hid (hR.row (g2, zQ, 24) (by repeat (first | exact List.Mem.head _ | refine List.Mem.tail _ ?_))).2
        clear n2 hb14 p0 p1 p3
        go_wp2_with (first
          | (refine wpList_load_rws rfl _ _ (by rfl) (by exact hR) g7 rfl _ _ (by repeat (first | exact List.Mem.head _ | refine List.Mem.tail _ ?_)) _ Tryz.underlying24 rfl (by kernel_rfl) ?_)
          | (refine wQ_store rfl _ _ _ (by rfl) (by exact hR) g2 rfl #[.string (bs m), .string (bs t), .slice ad hs.length c, .string ⟨#[]⟩] (by rfl) _ _ _ (by repeat (first | exact Pick.here | apply Pick.there)) (by kernel_rfl) (by kernel_rfl) (by kernel_rfl) ?_; intro w20 hR hsmw20 hszw20))
        refine bodyPost_ctt rfl hR g2 rfl _ _ (by repeat (first | exact List.Mem.head _ | refine List.Mem.tail _ ?_)) _ Tryz.underlying24 rfl (by kernel_rfl) _ rfl _ rfl rfl (fun hbz => ?_)
        exact ⟨Or.inr ⟨_, _, ad, c, bi, HOK.out, rfl, HLI.out, HLT14.out.set HG14.out (by first | decide | (dsimp only; decide)) hsmw20, HSL.out.1, HSL.out.2.1, H31.out⟩, hbz⟩
end Go.Proofs.YtipjkjcmceeaeaaGreatDoor
