/- http.form: the walk. -/
import Derived.Test.YtipjkjcmceeaeaaGreatDoorYField
import Derived.Test.YtipjkjcmceeaeaaGreatDoorYRFm
namespace Go.Proofs.YtipjkjcmceeaeaaGreatDoor
open Go.RowKit

theorem err_neq (why s : ByteArray) (w : World) : (binOp .neq 59 (wrV why s) .nilIface).run Tryz.prog w = .ok (.bool true) w := by kernel_rfl
theorem nil_neq (w : World) : (binOp .neq 59 .nilIface .nilIface).run Tryz.prog w = .ok (.bool false) w := by kernel_rfl
theorem err_guard (i : Nat) (why s : ByteArray) (w : World) : (eqGuard .neq 59 (.tmp i) (.const .nilIface) (wrV why s) .nilIface).run Tryz.prog w = .ok () w := by kernel_rfl
theorem nil_guard (i : Nat) (w : World) : (eqGuard .neq 59 (.tmp i) (.const .nilIface) .nilIface .nilIface).run Tryz.prog w = .ok () w := by kernel_rfl
def FormPost (q : Rq) (w : World) : Ending → World → Prop := fun e w' => ((formB q = true ∧ e = .returned .nilIface) ∨ (formB q = false ∧ ∃ why, e = .returned (wrV why sHead))) ∧ Below w.heap.size w w'
set_option maxRecDepth 100000 in
set_option maxHeartbeats 8000000 in
theorem form_any (q : Rq) (ad : Option Addr) (c : Nat) (w : World) (hs : SlH w q.hs ad c) (hq : SmallQ q) (h31 : q.hs.length ≤ 31) : Calls Tryz.prog 51 #[rqv q ad c] w (FormPost q w) := by
  have hSB := SB_eq
  have hMX := MX_eq
  obtain ⟨hle, hcm, b, f, had, hrow⟩ := hs
  have HROW := Lib.hid hrow
  have hR := Rws.start w
  have hqm := hq.m
  have hqt := hq.t
  have zt := bs_size q.t
  have HM0 : ∀ u, Calls Tryz.prog 46 #[.string (bs q.m), .int .i64 1, .int .i64 16, .func (.func 44) #[] #[]] u fun e w' => e = .returned (.bool (ofB 1 16 upC q.m)) ∧ w' = u := fun u => of_any _ upC lk_upper q.m 1 16 u (by omega)
  have HT0 : ∀ u, Calls Tryz.prog 46 #[.string (bs q.t), .int .i64 1, .int .i64 1024, .func (.func 75) #[] #[]] u fun e w' => e = .returned (.bool (ofB 1 1024 taC q.t)) ∧ w' = u := fun u => of_any _ taC lk_target q.t 1 1024 u (by omega)
  clear hrow
  cases hA : ofB 1 16 upC q.m with
  | false =>
    rw [hA] at HM0
    have HM := Lib.hid HM0; have HT := Lib.hid HT0
    have HFB : Hid (formB q = false) := Lib.hid (by rw [form_line]; unfold lineB; rw [hA]; rfl)
    clear hA HM0 HT0
    go_enter Tryz.func51, Tryz.ntmps51
    go_upto_region 1 with (refine wpList_box_rws rfl _ _ (by rfl) (by exact hR) (rqC q ad c) rfl ?_; intro gb w1 hR)
    have f0 : w1.cell? ⟨gb, 0, none⟩ = some (.string (bs q.m)) := hR.cellAt (g := gb) (List.Mem.head _) 0 rfl
    have f1 : w1.cell? ⟨gb, 1, none⟩ = some (.string (bs q.t)) := hR.cellAt (g := gb) (List.Mem.head _) 1 rfl
    have f2 : w1.cell? ⟨gb, 2, none⟩ = some (.slice ad q.hs.length c) := hR.cellAt (g := gb) (List.Mem.head _) 2 rfl
    have HBL := Lib.hid hR.below
    clear hR
    go_wp2_with (first
      | (go_at_call_of 46 (Value.string (bs q.m)); refine (HM.out _).mono ?_; rintro e w2 ⟨rfl, rfl⟩)
      | (go_at_call_of 46 (Value.string (bs q.t)); refine (HT.out _).mono ?_; rintro e w3 ⟨rfl, rfl⟩))
    go_ret
    exact ⟨Or.inr ⟨HFB.out, _, rfl⟩, HBL.out⟩
  | true =>
    rw [hA] at HM0
    have HM := Lib.hid HM0
    cases hB : ofB 1 1024 taC q.t with
    | false =>
      rw [hB] at HT0
      have HT := Lib.hid HT0
      have HFB : Hid (formB q = false) := Lib.hid (by rw [form_line]; unfold lineB; rw [hA, hB]; rfl)
      clear hA hB HM0 HT0
      go_enter Tryz.func51, Tryz.ntmps51
      go_upto_region 1 with (refine wpList_box_rws rfl _ _ (by rfl) (by exact hR) (rqC q ad c) rfl ?_; intro gb w1 hR)
      have f0 : w1.cell? ⟨gb, 0, none⟩ = some (.string (bs q.m)) := hR.cellAt (g := gb) (List.Mem.head _) 0 rfl
      have f1 : w1.cell? ⟨gb, 1, none⟩ = some (.string (bs q.t)) := hR.cellAt (g := gb) (List.Mem.head _) 1 rfl
      have f2 : w1.cell? ⟨gb, 2, none⟩ = some (.slice ad q.hs.length c) := hR.cellAt (g := gb) (List.Mem.head _) 2 rfl
      have HBL := Lib.hid hR.below
      clear hR
      go_wp2_with (first
        | (go_at_call_of 46 (Value.string (bs q.m)); refine (HM.out _).mono ?_; rintro e w2 ⟨rfl, rfl⟩)
        | (go_at_call_of 46 (Value.string (bs q.t)); refine (HT.out _).mono ?_; rintro e w3 ⟨rfl, rfl⟩))
      go_ret
      exact ⟨Or.inr ⟨HFB.out, _, rfl⟩, HBL.out⟩
    | true =>
      rw [hB] at HT0
      have HT := Lib.hid HT0
      have hne : q.t ≠ [] := fun e => by rw [e] at hB; exact absurd hB (by decide)
      obtain ⟨x, r, hxr⟩ := List.exists_cons_of_ne_nil hne
      have hgx := bs_get q.t 0 x (by rw [hxr]; rfl)
      have hl0 : (0 : Int) < (q.t.length : Int) := by rw [hxr]; simp only [List.length_cons]; omega
      by_cases hx : x = 47
      · have hxe : ((x.toNat : Int) != 47) = false := by rw [hx]; rfl
        have HFL : Hid (formB q = (q.hs.all fieldB && decide (hosts q.hs = 1))) := Lib.hid (by rw [form_line]; unfold lineB; rw [hA, hB, hxr, hx]; rfl)
        clear hA hB HM0 HT0 hne hxr hx
        go_enter Tryz.func51, Tryz.ntmps51
        go_upto_region 1 with (refine wpList_box_rws rfl _ _ (by rfl) (by exact hR) (rqC q ad c) rfl ?_; intro gb w1 hR)
        have f0 : w1.cell? ⟨gb, 0, none⟩ = some (.string (bs q.m)) := hR.cellAt (g := gb) (List.Mem.head _) 0 rfl
        have f1 : w1.cell? ⟨gb, 1, none⟩ = some (.string (bs q.t)) := hR.cellAt (g := gb) (List.Mem.head _) 1 rfl
        have f2 : w1.cell? ⟨gb, 2, none⟩ = some (.slice ad q.hs.length c) := hR.cellAt (g := gb) (List.Mem.head _) 2 rfl
        have HRR0 := Lib.hid hR
        clear hR
        go_upto_region 5 with (first
          | (go_at_call_of 46 (Value.string (bs q.m)); refine (HM.out _).mono ?_; rintro e w2 ⟨rfl, rfl⟩)
          | (go_at_call_of 46 (Value.string (bs q.t)); refine (HT.out _).mono ?_; rintro e w3 ⟨rfl, rfl⟩))
        clear f0 f1 f2 hgx
        go_loopg [3, 29] q.hs.length (fun gg s3 s29 wr => ∃ (i k : Nat), i ≤ q.hs.length ∧ gg = q.hs.length - i ∧ s3 = .int .i64 (k : Nat) ∧ s29 = .int .i64 (i : Nat) ∧ k ≤ i ∧ Aside (k = hosts (q.hs.take i)) ∧ Aside ((q.hs.take i).all fieldB = true) ∧ Aside (Rws w.heap.size w wr [(gb, rqC q ad c, 24)]))
        case atStart => exact ⟨0, 0, Nat.zero_le _, rfl, rfl, rfl, Nat.le_refl _, rfl, rfl, HRR0.out⟩
        case round =>
          obtain ⟨i, k, hil, rfl, rfl, rfl, hki, HK, HAL, HRR⟩ := hrel
          have hR := HRR.out
          by_cases hlt : i < q.hs.length
          · have hltz : (i : Int) < (q.hs.length : Int) := by omega
            obtain ⟨h, hh⟩ : ∃ h, q.hs[i]? = some h := ⟨q.hs[i], List.getElem?_eq_getElem hlt⟩
            obtain rfl : ad = some ⟨b, f, none⟩ := by rcases had with h | ⟨_, h⟩; exact h; omega
            obtain ⟨e0, e1⟩ := hd_cells (HROW.out) hh
            have c0 := (hR.below.cell (p := ⟨b, f + i * 2, none⟩) (World.block_lt_of_cell? w _ e0)).trans e0
            have c1 := (hR.below.cell (p := ⟨b, f + i * 2 + 1, none⟩) (World.block_lt_of_cell? w _ e1)).trans e1
            have hsm := hq.h h (List.mem_of_getElem? hh)
            have HH := Lib.hid hh
            clear e0 e1 hh
            have HFD : Hid (∀ u, Calls Tryz.prog 76 #[.agg #[.string (bs h.1), .string (bs h.2)]] u (FieldPost h u)) := Lib.hid fun u => field_any h u hsm.1 hsm.2
            go_upto_region 7 with (first
              | (refine wQ_alloc (cs := zH) rfl _ (by rfl) (by exact hR) zero_hd ?_; intro g5 w3 hR hb5 hg5)
              | (refine wQ_store rfl _ _ _ (by rfl) (by exact hR) g5 rfl #[.string (bs h.1), .string (bs h.2)] (by rfl) _ _ _ (by repeat (first | exact Pick.here | apply Pick.there)) (by kernel_rfl) (by kernel_rfl) (by kernel_rfl) ?_; intro w4 hR hsm4 hsz4))
            clear c0 c1 hsm4 hsz4 hb5 hg5
            cases hfb : fieldB h with
            | false =>
              have HC : Hid (∀ u, Calls Tryz.prog 76 #[.agg #[.string (bs h.1), .string (bs h.2)]] u fun e w' => (∃ why, e = .returned (wrV why sHead)) ∧ Below u.heap.size u w') := Lib.hid fun u => (HFD.out u).mono fun e w' hh => by
                obtain ⟨⟨h1, _⟩ | ⟨_, h2⟩, hb⟩ := hh
                · rw [hfb] at h1; cases h1
                · exact ⟨h2, hb⟩
              have HFB : Hid (formB q = false) := Lib.hid (by rw [HFL.out, all_hd_false HH.out hfb]; rfl)
              have en := err_neq
              have eg := err_guard
              clear hfb
              go_wp2_with (first
                | (refine wpList_load_rws rfl _ _ (by rfl) (by exact hR) g5 rfl _ _ (by repeat (first | exact List.Mem.head _ | refine List.Mem.tail _ ?_)) _ Tryz.underlying52 rfl (by kernel_rfl) ?_)
                | (go_at_call 76; refine (HC.out _).mono ?_; rintro e w5 ⟨⟨why, rfl⟩, hb5⟩; have hR5 := hR.call hb5))
              go_ret
              exact ⟨Or.inr ⟨HFB.out, _, rfl⟩, hR5.below⟩
            | true =>
              have HC : Hid (∀ u, Calls Tryz.prog 76 #[.agg #[.string (bs h.1), .string (bs h.2)]] u fun e w' => e = .returned .nilIface ∧ Below u.heap.size u w') := Lib.hid fun u => (HFD.out u).mono fun e w' hh => by
                obtain ⟨⟨_, h1⟩ | ⟨h1, _⟩, hb⟩ := hh
                · exact ⟨h1, hb⟩
                · rw [hfb] at h1; cases h1
              have HAL2 : Hid ((q.hs.take (i + 1)).all fieldB = true) := Lib.hid (by rw [all_hd HH.out, HAL.out, hfb]; rfl)
              have en := nil_neq
              have eg := nil_guard
              clear hfb
              go_upto_region 10 with (first
                | (refine wpList_load_rws rfl _ _ (by rfl) (by exact hR) g5 rfl _ _ (by repeat (first | exact List.Mem.head _ | refine List.Mem.tail _ ?_)) _ Tryz.underlying52 rfl (by kernel_rfl) ?_)
                | (go_at_call 76; refine (HC.out _).mono ?_; rintro e w5 ⟨rfl, hb5⟩; have hR5 := hR.call hb5))
              have n0 : w5.cell? ⟨g5, 0, none⟩ = some (.string (bs h.1)) := hR5.cellAt (g := g5) (List.Mem.head _) 0 rfl
              have HRT := Lib.hid (hR5.sub (List.Sublist.cons _ (List.Sublist.refl _)))
              by_cases hhost : h.1 = wHost
              · have hq1 : ((bs h.1).toList == [104, 111, 115, 116]) = true := by rw [bs_list, hhost]; rfl
                have hk1 : k ≤ 31 := by omega
                have HK2 : Hid (k + 1 = hosts (q.hs.take (i + 1))) := Lib.hid (by rw [hosts_take HH.out, if_pos hhost, HK.out])
                clear hhost
                go_wp2_with fail
                go_roundg (q.hs.length - (i + 1))
                case measure => omega
                case rel => exact ⟨i + 1, k + 1, by omega, rfl, by go_num, by go_num, by omega, HK2.out, HAL2.out, HRT.out⟩
              · have hq1 : ((bs h.1).toList == [104, 111, 115, 116]) = false := by rw [bs_list, beqL]; exact decide_eq_false hhost
                have HK2 : Hid (k = hosts (q.hs.take (i + 1))) := Lib.hid (by rw [hosts_take HH.out, if_neg hhost, HK.out]; rfl)
                clear hhost
                go_wp2_with fail
                go_roundg (q.hs.length - (i + 1))
                case measure => omega
                case rel => exact ⟨i + 1, k, by omega, rfl, rfl, by go_num, by omega, HK2.out, HAL2.out, HRT.out⟩
          · have hltz : ¬ (i : Int) < (q.hs.length : Int) := by omega
            have hkk : k = hosts q.hs := by rw [HK.out, List.take_of_length_le (by omega)]
            have hall : q.hs.all fieldB = true := by have := HAL.out; rw [List.take_of_length_le (by omega)] at this; exact this
            by_cases hk1 : k = 1
            · have z1 : ((k : Int) != 1) = false := by rw [hk1]; rfl
              have HFB : Hid (formB q = true) := Lib.hid (by rw [HFL.out, hall, ← hkk, hk1]; rfl)
              clear hkk hall hk1
              go_wp2_with fail
              go_ret
              exact ⟨Or.inl ⟨HFB.out, rfl⟩, hR.below⟩
            · have z1 : ((k : Int) != 1) = true := by simp; omega
              have HFB : Hid (formB q = false) := Lib.hid (by rw [HFL.out, hall, ← hkk, decide_eq_false hk1]; rfl)
              have HI : Hid (∀ u, Calls Tryz.prog 47 #[.int .i64 (k : Nat)] u fun e w' => e = .returned (.string (bs (numS k))) ∧ w' = u) := Lib.hid fun u => Tryz.strconv_Itoa_small k (by omega) u
              have hnl := (num_len (n := k) (by omega)).2
              have zn := bs_size (numS k)
              generalize numS k = N at *
              clear hkk hall hk1
              go_wp2_with (go_at_call 47; refine (HI.out _).mono ?_; rintro e w5 ⟨rfl, rfl⟩)
              go_ret
              exact ⟨Or.inr ⟨HFB.out, _, rfl⟩, hR.below⟩
      · have hxe : ((x.toNat : Int) != 47) = true := by
          have : x.toNat ≠ 47 := fun h => hx (UInt8.toNat_inj.1 (by simpa using h))
          simp; omega
        have HFB : Hid (formB q = false) := Lib.hid (by rw [form_line]; unfold lineB; rw [hA, hB, hxr]; simp [hx])
        clear hA hB HM0 HT0 hne hxr hx
        go_enter Tryz.func51, Tryz.ntmps51
        go_upto_region 1 with (refine wpList_box_rws rfl _ _ (by rfl) (by exact hR) (rqC q ad c) rfl ?_; intro gb w1 hR)
        have f0 : w1.cell? ⟨gb, 0, none⟩ = some (.string (bs q.m)) := hR.cellAt (g := gb) (List.Mem.head _) 0 rfl
        have f1 : w1.cell? ⟨gb, 1, none⟩ = some (.string (bs q.t)) := hR.cellAt (g := gb) (List.Mem.head _) 1 rfl
        have f2 : w1.cell? ⟨gb, 2, none⟩ = some (.slice ad q.hs.length c) := hR.cellAt (g := gb) (List.Mem.head _) 2 rfl
        have HBL := Lib.hid hR.below
        clear hR
        go_wp2_with (first
          | (go_at_call_of 46 (Value.string (bs q.m)); refine (HM.out _).mono ?_; rintro e w2 ⟨rfl, rfl⟩)
          | (go_at_call_of 46 (Value.string (bs q.t)); refine (HT.out _).mono ?_; rintro e w3 ⟨rfl, rfl⟩))
        go_ret
        exact ⟨Or.inr ⟨HFB.out, _, rfl⟩, HBL.out⟩
end Go.Proofs.YtipjkjcmceeaeaaGreatDoor
