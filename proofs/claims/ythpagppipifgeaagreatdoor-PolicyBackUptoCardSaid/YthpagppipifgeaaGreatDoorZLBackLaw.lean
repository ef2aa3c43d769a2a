/- PolicyBack: the law's walk. -/
import Derived.Test.YthpagppipifgeaaGreatDoorZLBackL
import Derived.Test.YthpagppipifgeaaGreatDoorZLRefS
import Derived.Test.YthpagppipifgeaaGreatDoorZLFixed
import Derived.Test.YthpagppipifgeaaGreatDoorZLF
import Derived.Deep.CutBlock
namespace Go.Proofs.YthpagppipifgeaaGreatDoor.policyBack
open Go.RowKit

theorem print_ok {k o : Int} {n t : ByteArray} {F : Fo} (hc : chkP k o n t F = 0) : (printP k o n t F = (textP k o n t F, 0) ∧ (textP k o n t F).length ≤ 1024) ∨ (printP k o n t F = ([], 201) ∧ 1024 < (textP k o n t F).length) := by
  unfold printP
  rw [if_pos hc]
  by_cases h : 1024 < (textP k o n t F).length
  · right; rw [if_pos h]; exact ⟨rfl, h⟩
  · left; rw [if_neg h]; exact ⟨rfl, by omega⟩
theorem chk_both {k o : Int} {n t : ByteArray} {F : Fo} (h : chkP k o n t F = 0) : mayP k o n t F = true ∧ smallP F = true := by
  unfold chkP at h
  split at h
  · next hm =>
    split at h
    · next hs => exact ⟨hm, hs⟩
    · simp at h
  · simp at h
theorem print_fell {k o : Int} {n t : ByteArray} {F : Fo} (hc : chkP k o n t F ≠ 0) : (printP k o n t F).2 ≠ 0 := by
  unfold printP; rw [if_neg hc]; exact hc
theorem fell_slf {Q : Nat → Prop} {w5 wa w6 : World} {F : Fo} {ad : Option Addr} {c g : Nat} (hs : SlQ Q w5 F ad c) (hb : Below w5.heap.size w5 wa) (hg : w5.heap.size ≤ g) (hsm : ∀ k, k ≠ g → w6.heap[k]? = wa.heap[k]?) : SlF w6 F ad c :=
  (hs.same (Q' := fun _ => True) (fun _ _ _ => trivial) (fun k _ hlt => (hsm k (by omega)).trans (hb.block k hlt))).slf
theorem row_same {w w' : World} (hs : ∀ k, k < w.heap.size → w'.heap[k]? = w.heap[k]?) : ∀ {F : Fo} {b f : Nat}, Row w F b f → Row w' F b f := by
  intro F
  induction F with
  | nil => exact fun _ => trivial
  | cons k o n t kids nx ih1 ih2 =>
    rintro b f ⟨⟨ad, c, b1, f1, h0, h1, h2, h3, h4, r1, r2, r3, r4, r5, r6⟩, hn⟩
    have hlt : b < w.heap.size := World.block_lt_of_cell? w _ h0
    have hc : ∀ i, w'.cell? ⟨b, f + i, none⟩ = w.cell? ⟨b, f + i, none⟩ := fun i => by simp only [World.cell?, hs b hlt]
    exact ⟨⟨ad, c, b1, f1, (hc 0).trans h0, (hc 1).trans h1, (hc 2).trans h2, (hc 3).trans h3, (hc 4).trans h4, r1, r2, r3, r4, r5, ih1 r6⟩, ih2 hn⟩
set_option maxRecDepth 100000 in
set_option maxHeartbeats 8000000 in
theorem law_any (k1 o1 : Int) (n1 t1 : ByteArray) (a1 : Option Addr) (c1 : Nat) (F1 : Fo) (s : ByteArray) (w : World) (hn1 : n1.size ≤ SB) (ht1 : t1.size ≤ SB) (_ : F1.len ≤ reachBytes / 72) (_ : F1.lens (reachBytes / 72)) (hs1 : SlF w F1 a1 c1) (hk1 : F1.cnt ≤ 174763) (_ : s.size ≤ SB) :
    Calls Tryz.prog 5 #[pv k1 o1 n1 t1 a1 F1.len c1, .string s] w (RetB true w) := by
  have hR := Rws.start w
  go_enter Tryz.func5, Tryz.ntmps5
  go_upto_region 1 with (refine wpList_box_rws rfl _ _ (by rfl) (by assumption) #[.int .i64 k1, .int .i64 o1, .string n1, .string t1, .slice a1 F1.len c1] rfl ?_; intro gp w1 hR)
  have HP : Hid (∀ u, Below w.heap.size w u → Calls Tryz.prog 9 #[pv k1 o1 n1 t1 a1 F1.len c1] u (RetSI (bs (printP k1 o1 n1 t1 F1).1) (printP k1 o1 n1 t1 F1).2 u)) := Lib.hid (fun u hb => Print_any k1 o1 n1 t1 F1 a1 c1 u hn1 ht1 (fun _ => by omega) (hs1.grown hb))
  have HC : Hid (∀ u, Below w.heap.size w u → Calls Tryz.prog 11 #[pv k1 o1 n1 t1 a1 F1.len c1] u (RetI (chkP k1 o1 n1 t1 F1) u)) := Lib.hid (fun u hb => Check_any k1 o1 n1 t1 F1 a1 c1 u hn1 ht1 (hs1.grown hb))
  have HS1 := Lib.hid hs1
  clear hs1 hk1 hn1 ht1
  go_cut [5, 6] (fun s5 s6 wx => s5 = .string (bs (printP k1 o1 n1 t1 F1).1) ∧ s6 = .int .i64 (printP k1 o1 n1 t1 F1).2 ∧ Aside (Rws w.heap.size w wx [(gp, #[.int .i64 k1, .int .i64 o1, .string n1, .string t1, .slice a1 F1.len c1], 24)]))
  case first =>
    go_wp2_with (first
      | (refine wpList_load_rws rfl _ _ (by rfl) (by assumption) _ rfl _ _ (by repeat (first | exact List.Mem.head _ | refine List.Mem.tail _ ?_)) _ Tryz.underlying24 rfl (by kernel_rfl) ?_)
      | (go_at_call 9; refine (HP.out _ hR.below).mono ?_; rintro e w2 ⟨rfl, hb⟩; have hR := hR.call hb))
    go_meet
    exact ⟨rfl, rfl, hR⟩
  case rest =>
  obtain ⟨rfl, rfl, HR2⟩ := hcut
  clear HP hR
  have hR := HR2.out
  obtain ⟨S, hS⟩ : ∃ S, S = bs (printP k1 o1 n1 t1 F1).1 := ⟨_, rfl⟩
  obtain ⟨E, hE⟩ : ∃ E, E = (printP k1 o1 n1 t1 F1).2 := ⟨_, rfl⟩
  rw [← hS, ← hE]
  have HS0 := Lib.hid hS
  have HE0 := Lib.hid hE
  clear hS hE
  go_upto_if 23 with fail
  go_cut [] (fun wx => Aside (Below w.heap.size w wx))
  case first =>
    by_cases hc : chkP k1 o1 n1 t1 F1 = 0
    · obtain ⟨hm, hs⟩ := chk_both hc
      rw [hc] at HC
      rcases print_ok hc with ⟨hp, hl⟩ | ⟨hp, hl⟩
      · have hp1 := parse_text hm hs hl
        have hpb := fun h => parse_blanks hm hs h
        have hS := HS0.out
        have hE := HE0.out
        rw [hp] at hS hE
        simp only at hS hE
        generalize textP k1 o1 n1 t1 F1 = T at *
        subst hS
        subst hE
        have hTz := bs_size T
        have HPA : Hid (∀ u, Calls Tryz.prog 16 #[.string (bs T)] u (PRet (⟨k1, o1, n1, t1, F1⟩, 0) u)) := Lib.hid fun u => by
          have := Parse_any (bs T) u
          rw [bs_data, hp1] at this
          exact this
        have HPB : Hid (T.length < 1000 → ∀ u, Calls Tryz.prog 16 #[.string (bs ([32, 32, 40] ++ T ++ [32, 41, 32]))] u (PRet (⟨k1, o1, n1, t1, F1⟩, 0) u)) := Lib.hid fun h u => by
          have := Parse_any (bs ([32, 32, 40] ++ T ++ [32, 41, 32])) u
          rw [bs_data, hpb h] at this
          exact this
        have HCAT : Hid ((({ data := #[32, 32, 40] } : ByteArray) ++ bs T) ++ { data := #[32, 41, 32] } = bs ([32, 32, 40] ++ T ++ [32, 41, 32])) := Lib.hid (by
          rw [show ({ data := #[32, 32, 40] } : ByteArray) = bs [32, 32, 40] from rfl, show ({ data := #[32, 41, 32] } : ByteArray) = bs [32, 41, 32] from rfl, bs_app2, bs_app2])
        have z1 : ¬ 9223372036854775807 < 3 + (bs T).size := by omega
        have z2 : ¬ 9223372036854775807 < 3 + (bs T).size + 3 := by omega
        have z3 : (({ data := #[32, 32, 40] } : ByteArray) ++ bs T).size = 3 + (bs T).size := by rw [ByteArray.size_append]; rfl
        clear hc hm hs hp hp1 hpb HR2 HS0 HE0
        go_upto_region 4 with (first
          | (go_at_call 16; refine (HPA.out _).mono ?_; rintro e w3 ⟨⟨ad3, c3, rfl, hsq⟩, _, _, hb⟩; have hR := hR.call hb)
          | (refine wQ_alloc (cs := zP) rfl _ (by rfl) (by assumption) zero_pol ?_; intro g7 w4 hR hbg7 hg7)
          | (refine wQ_store rfl _ _ _ (by rfl) (by assumption) _ rfl #[.int .i64 k1, .int .i64 o1, .string n1, .string t1, .slice ad3 F1.len c3] (by rfl) _ _ _ (by repeat (first | exact Pick.here | apply Pick.there)) (by kernel_rfl) (by kernel_rfl) (by kernel_rfl) ?_; intro w5 hR hsm hsz))
        have hsl := fell_slf hsq hbg7 hg7 hsm
        clear hsq hbg7 hg7 hsm hsz hb
        have p0 := hR.cellAt (g := gp) (by repeat (first | exact List.Mem.head _ | refine List.Mem.tail _ ?_)) 0 rfl; have p1 := hR.cellAt (g := gp) (by repeat (first | exact List.Mem.head _ | refine List.Mem.tail _ ?_)) 1 rfl; have p2 := hR.cellAt (g := gp) (by repeat (first | exact List.Mem.head _ | refine List.Mem.tail _ ?_)) 2 rfl; have p3 := hR.cellAt (g := gp) (by repeat (first | exact List.Mem.head _ | refine List.Mem.tail _ ?_)) 3 rfl; have p4 := hR.cellAt (g := gp) (by repeat (first | exact List.Mem.head _ | refine List.Mem.tail _ ?_)) 4 rfl
        have q0 := hR.cellAt (g := g7) (by repeat (first | exact List.Mem.head _ | refine List.Mem.tail _ ?_)) 0 rfl; have q1 := hR.cellAt (g := g7) (by repeat (first | exact List.Mem.head _ | refine List.Mem.tail _ ?_)) 1 rfl; have q2 := hR.cellAt (g := g7) (by repeat (first | exact List.Mem.head _ | refine List.Mem.tail _ ?_)) 2 rfl; have q3 := hR.cellAt (g := g7) (by repeat (first | exact List.Mem.head _ | refine List.Mem.tail _ ?_)) 3 rfl; have q4 := hR.cellAt (g := g7) (by repeat (first | exact List.Mem.head _ | refine List.Mem.tail _ ?_)) 4 rfl
        go_upto_region 6 with (first
          | (go_at_call 18; refine (same_any F1 k1 o1 n1 t1 a1 c1 ad3 c3 _ (HS1.out.grown hR.below) hsl).mono ?_; rintro e w6 ⟨rfl, hb⟩; have hR := hR.call hb; have p0 := hR.cellAt (g := gp) (by repeat (first | exact List.Mem.head _ | refine List.Mem.tail _ ?_)) 0 rfl; have p1 := hR.cellAt (g := gp) (by repeat (first | exact List.Mem.head _ | refine List.Mem.tail _ ?_)) 1 rfl; have p2 := hR.cellAt (g := gp) (by repeat (first | exact List.Mem.head _ | refine List.Mem.tail _ ?_)) 2 rfl; have p3 := hR.cellAt (g := gp) (by repeat (first | exact List.Mem.head _ | refine List.Mem.tail _ ?_)) 3 rfl; have p4 := hR.cellAt (g := gp) (by repeat (first | exact List.Mem.head _ | refine List.Mem.tail _ ?_)) 4 rfl)
          | (go_at_call 11; refine (HC.out _ hR.below).mono ?_; rintro e w7 ⟨rfl, hb⟩; have hR := hR.call hb))
        by_cases h1000 : T.length < 1000
        · have hz : (T.length : Int) < 1000 := by omega
          have HPB2 := Lib.hid (HPB.out h1000)
          clear hsl HPB h1000
          go_upto_region 8 with (first
            | (go_at_call 16; rw [HCAT.out]; refine (HPB2.out _).mono ?_; rintro e w8 ⟨⟨ad4, c4, rfl, hsq⟩, _, _, hb⟩; have hR := hR.call hb)
            | (refine wQ_alloc (cs := zP) rfl _ (by rfl) (by assumption) zero_pol ?_; intro g9 w9 hR hbg9 hg9)
            | (refine wQ_store rfl _ _ _ (by rfl) (by assumption) _ rfl #[.int .i64 k1, .int .i64 o1, .string n1, .string t1, .slice ad4 F1.len c4] (by rfl) _ _ _ (by repeat (first | exact Pick.here | apply Pick.there)) (by kernel_rfl) (by kernel_rfl) (by kernel_rfl) ?_; intro w10 hR hsm hsz))
          have hsl := fell_slf hsq hbg9 hg9 hsm
          clear hsq hbg9 hg9 hsm hsz hb
          have p0 := hR.cellAt (g := gp) (by repeat (first | exact List.Mem.head _ | refine List.Mem.tail _ ?_)) 0 rfl; have p1 := hR.cellAt (g := gp) (by repeat (first | exact List.Mem.head _ | refine List.Mem.tail _ ?_)) 1 rfl; have p2 := hR.cellAt (g := gp) (by repeat (first | exact List.Mem.head _ | refine List.Mem.tail _ ?_)) 2 rfl; have p3 := hR.cellAt (g := gp) (by repeat (first | exact List.Mem.head _ | refine List.Mem.tail _ ?_)) 3 rfl; have p4 := hR.cellAt (g := gp) (by repeat (first | exact List.Mem.head _ | refine List.Mem.tail _ ?_)) 4 rfl
          have q0 := hR.cellAt (g := g9) (by repeat (first | exact List.Mem.head _ | refine List.Mem.tail _ ?_)) 0 rfl; have q1 := hR.cellAt (g := g9) (by repeat (first | exact List.Mem.head _ | refine List.Mem.tail _ ?_)) 1 rfl; have q2 := hR.cellAt (g := g9) (by repeat (first | exact List.Mem.head _ | refine List.Mem.tail _ ?_)) 2 rfl; have q3 := hR.cellAt (g := g9) (by repeat (first | exact List.Mem.head _ | refine List.Mem.tail _ ?_)) 3 rfl; have q4 := hR.cellAt (g := g9) (by repeat (first | exact List.Mem.head _ | refine List.Mem.tail _ ?_)) 4 rfl
          go_wp2_with (first
            | (go_at_call 18; refine (same_any F1 k1 o1 n1 t1 a1 c1 ad4 c4 _ (HS1.out.grown hR.below) hsl).mono ?_; rintro e w11 ⟨rfl, hb⟩; have hR := hR.call hb))
          go_meet
          exact hR.below
        · have hz : ¬ (T.length : Int) < 1000 := by omega
          go_wp2_with fail
          go_meet
          exact hR.below
      · have hE := HE0.out
        rw [hp] at hE
        simp only at hE
        subst hE
        clear hp hl hc hm hs HR2 HS0 HE0
        go_wp2_with fail
        go_meet
        exact hR.below
    · have hE := print_fell hc
      rw [← HE0.out] at hE
      have hEz : (E == 0) = false := by simp [hE]
      clear hc hE HR2 HS0 HE0
      go_wp2_with fail
      go_meet
      exact hR.below
  case rest =>
  have hB0 := hcut
  clear hcut HC HS1 HR2 hR HS0 HE0
  have HB0 := Lib.hid hB0.out
  clear hB0
  have hR := Rws.start wc
  obtain ⟨r, hr⟩ : ∃ r, r = ParseR s.data.toList := ⟨_, rfl⟩
  have HPS : Hid (∀ u, Calls Tryz.prog 16 #[.string s] u (PRet r u)) := Lib.hid fun u => by rw [hr]; exact Parse_any s u
  obtain ⟨q, f⟩ := r
  by_cases hf : f = 0
  · subst hf
    obtain ⟨hm, hs, hcn⟩ := parse_may hr.symm
    obtain ⟨k, o, n, t, F⟩ := q
    have hc : chkP k o n t F = 0 := by
      unfold chkP
      rw [if_pos (show mayP k o n t F = true from hm), if_pos (show smallP F = true from hs)]
    have hcn : F.cnt ≤ 1000000 := Nat.le_trans hcn (by decide)
    clear hr
    go_upto_region 11 with (first
      | (go_at_call 16; refine (HPS.out _).mono ?_; rintro e w3 ⟨⟨ad3, c3, rfl, hsq⟩, zn, zt, hb⟩; have hR := hR.call hb)
      | (refine wQ_alloc (cs := zP) rfl _ (by rfl) (by assumption) zero_pol ?_; intro g11 w4 hR hbg11 hg11)
      | (refine wQ_store rfl _ _ _ (by rfl) (by assumption) _ rfl #[.int .i64 k, .int .i64 o, .string n, .string t, .slice ad3 F.len c3] (by rfl) _ _ _ (by repeat (first | exact Pick.here | apply Pick.there)) (by kernel_rfl) (by kernel_rfl) (by kernel_rfl) ?_; intro w5 hR hsm hsz))
    have hsl : SlF w5 F ad3 c3 := fell_slf hsq hbg11 hg11 hsm
    have hn : n.size ≤ SB := zn
    have ht : t.size ≤ SB := zt
    have HPR : Hid (∀ u, Below w5.heap.size w5 u → Calls Tryz.prog 9 #[pv k o n t ad3 F.len c3] u (RetSI (bs (printP k o n t F).1) (printP k o n t F).2 u)) := Lib.hid (fun u hb => Print_any k o n t F ad3 c3 u hn ht (fun _ => hcn) (hsl.grown hb))
    have HCK : Hid (∀ u, Below w5.heap.size w5 u → Calls Tryz.prog 11 #[pv k o n t ad3 F.len c3] u (RetI (chkP k o n t F) u)) := Lib.hid (fun u hb => Check_any k o n t F ad3 c3 u hn ht (hsl.grown hb))
    rw [hc] at HCK
    have hB5 : Below w5.heap.size w5 w5 := Below.refl _ _
    have HSL := Lib.hid hsl
    clear hsq hbg11 hg11 hsm hsz hb hsl hn ht zn zt hcn
    rcases print_ok hc with ⟨hp, hl⟩ | ⟨hp, hl⟩
    · have hp1 := parse_text (show mayP k o n t F = true from hm) hs hl
      rw [hp] at HPR
      generalize textP k o n t F = T at *
      have HPA : Hid (∀ u, Calls Tryz.prog 16 #[.string (bs T)] u (PRet (⟨k, o, n, t, F⟩, 0) u)) := Lib.hid fun u => by
        have := Parse_any (bs T) u
        rw [bs_data, hp1] at this
        exact this
      clear hp hp1 hl hm hs hc HPS HCK
      go_upto_region 17 with (first
        | (refine wpList_load_rws rfl _ _ (by rfl) (by assumption) _ rfl _ _ (by repeat (first | exact List.Mem.head _ | refine List.Mem.tail _ ?_)) _ Tryz.underlying24 rfl (by kernel_rfl) ?_)
        | (go_at_call 9; refine (HPR.out _ hB5).mono ?_; rintro e w6 ⟨rfl, hb⟩; have hR := hR.call hb; have hB5 := b_trans hB5 hb; clear hb)
        | (go_at_call 16; refine (HPA.out _).mono ?_; rintro e w7 ⟨⟨ad7, c7, rfl, hsq⟩, _, _, hb⟩; have hR := hR.call hb; have hB5 := b_trans hB5 hb; clear hb)
        | (refine wQ_alloc (cs := zP) rfl _ (by rfl) (by assumption) zero_pol ?_; intro g15 w8 hR hbg15 hg15)
        | (refine wQ_store rfl _ _ _ (by rfl) (by assumption) _ rfl #[.int .i64 k, .int .i64 o, .string n, .string t, .slice ad7 F.len c7] (by rfl) _ _ _ (by repeat (first | exact Pick.here | apply Pick.there)) (by kernel_rfl) (by kernel_rfl) (by kernel_rfl) ?_; intro w9 hR hsm hsz))
      have hsl7 : SlF w9 F ad7 c7 := fell_slf hsq hbg15 hg15 hsm
      have hsl3 : SlF w9 F ad3 c3 := by
        have h := HSL.out.grown hB5
        obtain ⟨h1, h2, b, f, h3, h4⟩ := h
        exact ⟨h1, h2, b, f, h3, row_same (fun k hk => (hsm k (by omega)).trans (hbg15.block k hk)) h4⟩
      clear hsq hbg15 hg15 hsm hsz hB5 HSL
      have p0 := hR.cellAt (g := g11) (by repeat (first | exact List.Mem.head _ | refine List.Mem.tail _ ?_)) 0 rfl; have p1 := hR.cellAt (g := g11) (by repeat (first | exact List.Mem.head _ | refine List.Mem.tail _ ?_)) 1 rfl; have p2 := hR.cellAt (g := g11) (by repeat (first | exact List.Mem.head _ | refine List.Mem.tail _ ?_)) 2 rfl; have p3 := hR.cellAt (g := g11) (by repeat (first | exact List.Mem.head _ | refine List.Mem.tail _ ?_)) 3 rfl; have p4 := hR.cellAt (g := g11) (by repeat (first | exact List.Mem.head _ | refine List.Mem.tail _ ?_)) 4 rfl
      have q0 := hR.cellAt (g := g15) (by repeat (first | exact List.Mem.head _ | refine List.Mem.tail _ ?_)) 0 rfl; have q1 := hR.cellAt (g := g15) (by repeat (first | exact List.Mem.head _ | refine List.Mem.tail _ ?_)) 1 rfl; have q2 := hR.cellAt (g := g15) (by repeat (first | exact List.Mem.head _ | refine List.Mem.tail _ ?_)) 2 rfl; have q3 := hR.cellAt (g := g15) (by repeat (first | exact List.Mem.head _ | refine List.Mem.tail _ ?_)) 3 rfl; have q4 := hR.cellAt (g := g15) (by repeat (first | exact List.Mem.head _ | refine List.Mem.tail _ ?_)) 4 rfl
      go_wp2_with (first
        | (go_at_call 18; refine (same_any F k o n t ad3 c3 ad7 c7 _ hsl3 hsl7).mono ?_; rintro e w10 ⟨rfl, hb⟩; have hR := hR.call hb)
        | (go_at_call 15; refine (fixed_any _).mono ?_; rintro e u ⟨rfl, hb⟩; have hR := hR.call hb))
      go_ret
      exact ⟨rfl, HB0.out.trans (hR.below.mono HB0.out.size)⟩
    · rw [hp] at HPR
      clear hp hl hm hs hc HPS HSL
      go_wp2_with (first
        | (refine wpList_load_rws rfl _ _ (by rfl) (by assumption) _ rfl _ _ (by repeat (first | exact List.Mem.head _ | refine List.Mem.tail _ ?_)) _ Tryz.underlying24 rfl (by kernel_rfl) ?_)
        | (go_at_call 9; refine (HPR.out _ hB5).mono ?_; rintro e w6 ⟨rfl, hb⟩; have hR := hR.call hb; have hB5 := b_trans hB5 hb; clear hb)
        | (go_at_call 11; refine (HCK.out _ hB5).mono ?_; rintro e w7 ⟨rfl, hb⟩; have hR := hR.call hb; have hB5 := b_trans hB5 hb; clear hb)
        | (go_at_call 15; refine (fixed_any _).mono ?_; rintro e u ⟨rfl, hb⟩; have hR := hR.call hb))
      go_ret
      exact ⟨rfl, HB0.out.trans (hR.below.mono HB0.out.size)⟩
  · obtain ⟨hq, hf2⟩ := parse_fell (s := s.data.toList) (by rw [← hr]; exact hf)
    rw [← hr] at hq hf2
    simp only at hq hf2
    subst hq
    have hfz : (f != 0) = true := by simp [hf]
    have hf3 : f = 200 ∨ f = 201 := hf2
    clear hr hf hf2
    go_upto_region 12 with (first
      | (go_at_call 16; refine (HPS.out _).mono ?_; rintro e w3 ⟨⟨ad3, c3, rfl, hsq⟩, _, _, hb⟩; have hR := hR.call hb)
      | (refine wQ_alloc (cs := zP) rfl _ (by rfl) (by assumption) zero_pol ?_; intro g11 w4 hR hbg11 hg11)
      | (refine wQ_store rfl _ _ _ (by rfl) (by assumption) _ rfl #[.int .i64 0, .int .i64 0, .string e0, .string e0, .slice ad3 0 c3] (by rfl) _ _ _ (by repeat (first | exact Pick.here | apply Pick.there)) (by kernel_rfl) (by kernel_rfl) (by kernel_rfl) ?_; intro w5 hR hsm hsz))
    have hsl : SlF w5 .nil ad3 c3 := fell_slf hsq hbg11 hg11 hsm
    clear hsq hbg11 hg11 hsm hsz hb HPS hfz
    rcases hf3 with rfl | rfl
    · go_wp2_with (first
        | (refine wpList_load_rws rfl _ _ (by rfl) (by assumption) _ rfl _ _ (by repeat (first | exact List.Mem.head _ | refine List.Mem.tail _ ?_)) _ Tryz.underlying24 rfl (by kernel_rfl) ?_)
        | (go_at_call 18; refine (same_any .nil 0 0 e0 e0 ad3 c3 none 0 _ hsl (SlQ.nil (fun _ => True) _).slf).mono ?_; rintro e w6 ⟨rfl, hb⟩; have hR := hR.call hb)
        | (go_at_call 15; refine (fixed_any _).mono ?_; rintro e u ⟨rfl, hb⟩; have hR := hR.call hb))
      go_ret
      exact ⟨rfl, HB0.out.trans (hR.below.mono HB0.out.size)⟩
    · go_wp2_with (first
        | (refine wpList_load_rws rfl _ _ (by rfl) (by assumption) _ rfl _ _ (by repeat (first | exact List.Mem.head _ | refine List.Mem.tail _ ?_)) _ Tryz.underlying24 rfl (by kernel_rfl) ?_)
        | (go_at_call 18; refine (same_any .nil 0 0 e0 e0 ad3 c3 none 0 _ hsl (SlQ.nil (fun _ => True) _).slf).mono ?_; rintro e w6 ⟨rfl, hb⟩; have hR := hR.call hb)
        | (go_at_call 15; refine (fixed_any _).mono ?_; rintro e u ⟨rfl, hb⟩; have hR := hR.call hb))
      go_ret
      exact ⟨rfl, HB0.out.trans (hR.below.mono HB0.out.size)⟩
end Go.Proofs.YthpagppipifgeaaGreatDoor.policyBack
