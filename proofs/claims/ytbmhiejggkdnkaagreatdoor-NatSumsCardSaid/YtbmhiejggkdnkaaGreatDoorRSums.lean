/- The reference's Sums: the walk. -/
import Derived.Test.YtbmhiejggkdnkaaGreatDoorRLong
import Derived.Test.YtbmhiejggkdnkaaGreatDoorRPlus
import Derived.Laws.Rows
namespace Go.Proofs.YtbmhiejggkdnkaaGreatDoor
open Go.RowKit

/-- The five texts, by the document. -/
def sm1 (A B : Nat) : ByteArray := if B ≤ A then tx (A - B) else ⟨#[]⟩
def sm3 (A B : Nat) : ByteArray := if B = 0 then ⟨#[]⟩ else tx (A / B)
def sm4 (A B : Nat) : ByteArray := if B = 0 then ⟨#[]⟩ else tx (A % B)
def smE (A B : Nat) : Int := if B ≤ A then 0 else 32
def smF (B : Nat) : Int := if B = 0 then 31 else 0
def SumsV (a b : ByteArray) : Array Value :=
  if 512 < a.size ∨ 512 < b.size then #[.string ⟨#[]⟩, .string ⟨#[]⟩, .string ⟨#[]⟩, .string ⟨#[]⟩, .string ⟨#[]⟩]
  else #[.string (tx (nv a + nv b)), .string (sm1 (nv a) (nv b)), .string (tx (nv a * nv b)), .string (sm3 (nv a) (nv b)), .string (sm4 (nv a) (nv b))]
def SumsE (a b : ByteArray) : Int := if 512 < a.size ∨ 512 < b.size then 30 else smE (nv a) (nv b)
def SumsF (a b : ByteArray) : Int := if 512 < a.size ∨ 512 < b.size then 30 else smF (nv b)

theorem info5 : (Tryz.prog.info? 35).map (·.size) = some 5 := by kernel_rfl

set_option maxRecDepth 100000 in
set_option maxHeartbeats 3200000 in
theorem sums_any (a b : ByteArray) (w : World) (ha : a.size ≤ 140737488351232) (hb : b.size ≤ 140737488351232) :
    Calls Tryz.prog 15 #[.string a, .string b] w fun e w' => e = .returned (.tuple #[.agg (SumsV a b), .int .i64 (SumsE a b), .int .i64 (SumsF a b)]) ∧ Below w.heap.size w w' := by
  by_cases hlong : 512 < a.size ∨ 512 < b.size
  · have hv : SumsV a b = #[.string ⟨#[]⟩, .string ⟨#[]⟩, .string ⟨#[]⟩, .string ⟨#[]⟩, .string ⟨#[]⟩] := by unfold SumsV; rw [if_pos hlong]
    have he : SumsE a b = 30 := by unfold SumsE; rw [if_pos hlong]
    have hf : SumsF a b = 30 := by unfold SumsF; rw [if_pos hlong]
    rw [hv, he, hf]
    have hd : decide (512 < a.size ∨ 512 < b.size) = true := decide_eq_true hlong
    have HD := Lib.hid hd
    clear hv he hf hlong hd
    go_enter Tryz.func15, Tryz.ntmps15
    go_wp2_with fail
    refine (long_two a b _ _ (by simp) (by omega) (by omega)).mono ?_
    rintro e w1 ⟨rfl, rfl⟩
    rw [HD.out]
    go_wp2_with fail
    exact bodyPost_ret (v := .tuple #[.agg #[.string ⟨#[]⟩, .string ⟨#[]⟩, .string ⟨#[]⟩, .string ⟨#[]⟩, .string ⟨#[]⟩], .int .i64 30, .int .i64 30]) (by simp [results, Tryz.results15, go_sem]) rfl
      ⟨rfl, ((Below.refl _ _).alloc (Nat.le_refl _) _).alloc (by simp) _⟩
  · have hd : decide (512 < a.size ∨ 512 < b.size) = false := decide_eq_false hlong
    obtain ⟨A, hA⟩ : ∃ A, A = nv a := ⟨_, rfl⟩
    obtain ⟨B, hB⟩ : ∃ B, B = nv b := ⟨_, rfl⟩
    have hv : SumsV a b = #[.string (tx (A + B)), .string (sm1 A B), .string (tx (A * B)), .string (sm3 A B), .string (sm4 A B)] := by unfold SumsV; rw [if_neg hlong, hA, hB]
    have he : SumsE a b = smE A B := by unfold SumsE; rw [if_neg hlong, hA, hB]
    have hf : SumsF a b = smF B := by unfold SumsF; rw [if_neg hlong, hB]
    rw [hv, he, hf]
    have hsa : a.size ≤ 512 := by omega
    have hsb : b.size ≤ 512 := by omega
    obtain ⟨K, hK⟩ : ∃ K, K = 256 := ⟨_, rfl⟩
    have hK1 : K ≤ 256 := by omega
    have hK2 : 256 ≤ K := by omega
    clear hK
    have hAl : A < 256 ^ (2 * K) := by rw [hA]; exact Nat.lt_of_lt_of_le (nv_size a) (pow_mono (by omega))
    have hBl : B < 256 ^ (2 * K) := by rw [hB]; exact Nat.lt_of_lt_of_le (nv_size b) (pow_mono (by omega))
    have HD := Lib.hid hd; have HA := Lib.hid hA.symm; have HB := Lib.hid hB.symm; have HAl := Lib.hid hAl; have HBl := Lib.hid hBl
    clear hv he hf hlong hd hA hB hAl hBl
    go_enter Tryz.func15, Tryz.ntmps15
    go_wp2_with fail
    refine (long_two a b _ _ (by simp) (by omega) (by omega)).mono ?_
    rintro e w1 ⟨rfl, rfl⟩
    rw [HD.out]
    obtain ⟨W1, hW1⟩ : ∃ W1, W1 = ((w.alloc (.cells #[.string ⟨#[]⟩, .string ⟨#[]⟩, .string ⟨#[]⟩, .string ⟨#[]⟩, .string ⟨#[]⟩] 35)).alloc (.cells #[.string a, .string b] 9)) := ⟨_, rfl⟩
    have hr4 : Arr W1 w.heap.size #[.string ⟨#[]⟩, .string ⟨#[]⟩, .string ⟨#[]⟩, .string ⟨#[]⟩, .string ⟨#[]⟩] 35 := by
      rw [hW1]; exact (Arr.new w _ _).below ((Below.refl _ _).alloc (Nat.le_refl _) _) (Nat.le_refl _)
    have hbW : Below w.heap.size w W1 := by rw [hW1]; exact ((Below.refl _ _).alloc (Nat.le_refl _) _).alloc (by simp) _
    rw [← hW1]
    clear hW1
    go_wp2_with fail
    refine (of_ok a A _ (by omega) HA.out).mono ?_
    rintro e w2 ⟨xo, xn, xc, rfl, hx, hb2⟩
    go_wp2_with fail
    refine (of_ok b B _ (by omega) HB.out).mono ?_
    rintro e w3 ⟨yo, yn, yc, rfl, hy, hb3⟩
    have hx := hx.below hb3 (Nat.le_refl _)
    have hxn : xn ≤ K := rn_of_lt hx HAl.out
    have hyn : yn ≤ K := rn_of_lt hy HBl.out
    have hy0 := rn_zero hy
    have HY0 := Lib.hid hy0; clear hy0
    have hb3 := hb2.trans (hb3.mono hb2.size); clear hb2
    go_wp2_with fail
    refine (rplus_any _ _ _ _ _ _ A B _ hx hy (by omega) (by omega)).mono ?_
    rintro e w4 ⟨so, sn, sc, rfl, hs, hb4⟩
    have hx := hx.below hb4 (Nat.le_refl _); have hy := hy.below hb4 (Nat.le_refl _)
    have hb4 := hb3.trans (hb4.mono hb3.size); clear hb3
    have hsn : sn ≤ K + 1 := hs.le (by
      have h1 := HAl.out; have h2 := HBl.out
      rw [Nat.pow_mul] at h1 h2
      have h1 : A < DB ^ K := h1
      have h2 : B < DB ^ K := h2
      have h3 : DB ^ K * 2 ≤ DB ^ (K + 1) := by rw [Nat.pow_succ]; exact Nat.mul_le_mul_left _ DB2
      omega)
    go_wp2_with fail
    refine (form_ok _ _ _ _ _ hs (by omega)).mono ?_
    rintro e w5 ⟨rfl, hb5⟩
    have hx := hx.below hb5 (Nat.le_refl _); have hy := hy.below hb5 (Nat.le_refl _)
    have hb5 := hb4.trans (hb5.mono hb4.size); clear hb4 hs
    go_wp2_with fail
    refine (rtimes_any _ _ _ _ _ _ A B _ hx hy (by omega) (by omega)).mono ?_
    rintro e w6 ⟨po, pn, pc, rfl, hp, hb6⟩
    have hx := hx.below hb6 (Nat.le_refl _); have hy := hy.below hb6 (Nat.le_refl _)
    have hb6 := hb5.trans (hb6.mono hb5.size); clear hb5
    have hpn : pn ≤ 2 * K := rn_of_lt hp (by
      have h := Nat.mul_lt_mul'' HAl.out HBl.out
      rw [← Nat.pow_add, show 2 * K + 2 * K = 2 * (2 * K) from by omega] at h; exact h)
    go_wp2_with fail
    refine (form_ok _ _ _ _ _ hp (by omega)).mono ?_
    rintro e w7 ⟨rfl, hb7⟩
    have hx := hx.below hb7 (Nat.le_refl _); have hy := hy.below hb7 (Nat.le_refl _)
    have hb7 := hb6.trans (hb7.mono hb6.size); clear hb6 hp
    have hr7 := hr4.below hb7 (Nat.le_refl _); clear hr4
    have hb7 := hbW.trans (hb7.mono hbW.size); clear hbW
    go_wp2_with fail
    -- the branches
    obtain ⟨g9, hg9⟩ : ∃ g, g = w7.heap.size := ⟨_, rfl⟩
    have hg9w : w.heap.size ≤ g9 := by rw [hg9]; exact hb7.size
    obtain ⟨W8, hW8⟩ : ∃ W8, W8 = w7.alloc (.cells #[.string (tx (A + B)), .string ⟨#[]⟩, .string (tx (A * B)), .string ⟨#[]⟩, .string ⟨#[]⟩] 35) := ⟨_, rfl⟩
    have hb78 : Below w7.heap.size w7 W8 := by rw [hW8]; exact (Below.refl _ _).alloc (Nat.le_refl _) _
    have hr8 : Arr W8 g9 #[.string (tx (A + B)), .string ⟨#[]⟩, .string (tx (A * B)), .string ⟨#[]⟩, .string ⟨#[]⟩] 35 := by rw [hW8, hg9]; exact Arr.new w7 _ _
    have hne : w.heap.size ≠ g9 := by have := hr7.lt; omega
    have hq8 := hr7.below hb78 (Nat.le_refl _)
    have HXG := Lib.hid (rn_off hx (g := g9) (by rw [hg9]; exact Nat.le_refl _)); have HYG := Lib.hid (rn_off hy (g := g9) (by rw [hg9]; exact Nat.le_refl _))
    have hx := hx.below hb78 (Nat.le_refl _); have hy := hy.below hb78 (Nat.le_refl _)
    have hb8 := hb7.trans (hb78.mono hb7.size)
    rw [← hW8, ← hg9]
    clear hW8 hg9 hr7 hb7 hb78
    by_cases hle : B ≤ A
    · have hcm : 0 ≤ cmpN A B := by unfold cmpN; rw [if_neg (by omega)]; split <;> omega
      obtain ⟨cm, hcmd⟩ : ∃ cm, cm = cmpN A B := ⟨_, rfl⟩
      rw [← hcmd] at hcm
      have HCM := Lib.hid hcmd; have HLE := Lib.hid hle; clear hcmd hle
      refine (rcmp_any _ _ _ _ _ _ A B _ hx hy).mono ?_
      rintro e w9 ⟨rfl, q, rfl⟩
      rw [← HCM.out]
      go_wp2_with fail
      refine (rminus_any _ _ _ _ _ _ A B _ (hx.drewN q) (hy.drewN q) HLE.out (by omega) (by omega)).mono ?_
      rintro e w9 ⟨mo, mn, mc, rfl, hm, hb9⟩
      have hmn : mn ≤ K := rn_of_lt hm (Nat.lt_of_le_of_lt (Nat.sub_le _ _) HAl.out)
      go_wp2_with fail
      refine (form_ok _ _ _ _ _ hm (by omega)).mono ?_
      rintro e w10 ⟨rfl, hb10⟩
      have hba := hb9.trans (hb10.mono hb9.size)
      have hra := (hr8.drewN q).below hba (Nat.le_refl _); have hqa := (hq8.drewN q).below hba (Nat.le_refl _)
      have hx := (hx.drewN q).below hba (Nat.le_refl _); have hy := (hy.drewN q).below hba (Nat.le_refl _)
      have hbb : Below w.heap.size w w10 := (below_drawn hb8 q).trans (hba.mono hb8.size)
      have c1 := hra.cell (j := 1) rfl; have f1 := hra.frozen 1
      obtain ⟨W11, hW11⟩ : ∃ W11, W11 = w10.setCell ⟨g9, 1, none⟩ (.string (tx (A - B))) := ⟨_, rfl⟩
      have hr11 : Arr W11 g9 #[.string (tx (A + B)), .string (tx (A - B)), .string (tx (A * B)), .string ⟨#[]⟩, .string ⟨#[]⟩] 35 := by rw [hW11]; exact hra.set 1 _
      have hq11 : Arr W11 w.heap.size #[.string ⟨#[]⟩, .string ⟨#[]⟩, .string ⟨#[]⟩, .string ⟨#[]⟩, .string ⟨#[]⟩] 35 := by rw [hW11]; exact hqa.other (a := ⟨g9, 1, none⟩) hne
      have hb11 : Below w.heap.size w W11 := by rw [hW11]; exact hbb.setCell hg9w _
      have hsame : ∀ b o, b ≠ g9 → W11.cell? ⟨b, o, none⟩ = w10.cell? ⟨b, o, none⟩ := fun b o h => by rw [hW11]; exact cell_other _ _ _ _ h
      have hxg : xn = 0 ∨ blk xo ≠ g9 := HXG.out; have hyg : yn = 0 ∨ blk yo ≠ g9 := HYG.out
      have hx := rn_same hx hsame hxg; have hy := rn_same hy hsame hyg
      by_cases hB0 : B = 0
      · have hyz : ¬ 0 < yn := by have := HY0.out; omega
        subst hW11
        have hrf : Arr (w10.setCell ⟨g9, 1, none⟩ (.string (tx (A - B)))) g9 #[.string (tx (A + B)), .string (tx (A - B)), .string (tx (A * B)), .string ⟨#[]⟩, .string ⟨#[]⟩] 35 := hr11
        have hqf : Arr (w10.setCell ⟨g9, 1, none⟩ (.string (tx (A - B)))) w.heap.size #[.string ⟨#[]⟩, .string ⟨#[]⟩, .string ⟨#[]⟩, .string ⟨#[]⟩, .string ⟨#[]⟩] 35 := hq11
        have hb11 : Below w.heap.size w (w10.setCell ⟨g9, 1, none⟩ (.string (tx (A - B)))) := hb11
        have HB0 := Lib.hid hB0; clear hB0 hsame hr11 hq11
        go_wp2_with (first
          | (refine wpList_load_row ?_ 35 (.tmp 9) ?_ g9 ?_ 35 #[.string (tx (A + B)), .string (tx (A - B)), .string (tx (A * B)), .string ⟨#[]⟩, .string ⟨#[]⟩] (0, 0) _ hrf Tryz.underlying35 ?_ info5 ?_; exact rfl; exact rfl; exact rfl; exact rfl)
          | (refine wpList_store_row ?_ 35 (.tmp 4) (.tmp 56) ?_ w.heap.size #[.string (tx (A + B)), .string (tx (A - B)), .string (tx (A * B)), .string ⟨#[]⟩, .string ⟨#[]⟩] ?_ ?_ 35 _ hqf info5 ?_ ?_ ?_; exact rfl; exact rfl; exact rfl; exact rfl; exact rfl; simp [Value.oneCell']))
        have hld := run_loadVar_row (P := Tryz.prog) ((w10.setCell ⟨g9, 1, none⟩ (.string (tx (A - B)))).setRow w.heap.size #[.string (tx (A + B)), .string (tx (A - B)), .string (tx (A * B)), .string ⟨#[]⟩, .string ⟨#[]⟩]) w.heap.size 35 35 #[.string (tx (A + B)), .string (tx (A - B)), .string (tx (A * B)), .string ⟨#[]⟩, .string ⟨#[]⟩] (0, 0) _ (setRow_heap _ _ _ _ _ _ hqf) Tryz.underlying35 rfl info5
        refine bodyPost_ret (v := .tuple #[.agg #[.string (tx (A + B)), .string (tx (A - B)), .string (tx (A * B)), .string ⟨#[]⟩, .string ⟨#[]⟩], .int .i64 0, .int .i64 31]) ?_ ?_ ?_
        · simp [results, Tryz.results15, asAddr, hld]
        · rfl
        refine ⟨?_, below_setRow hb11 (Nat.le_refl _) _⟩
        unfold sm1 sm3 sm4 smE smF
        rw [if_pos HLE.out, if_pos HB0.out, if_pos HB0.out, if_pos HLE.out, if_pos HB0.out]
      · have hyz : 0 < yn := by have := HY0.out; omega
        have HBP := Lib.hid (show 0 < B by omega); have HB0 := Lib.hid hB0; have HW11 := Lib.hid hW11; clear hB0 hsame hW11
        go_wp2_with fail
        rw [← HW11.out]
        have hBp := HBP.out
        refine (rdiv_any _ _ _ _ _ _ A B _ hx hy HBP.out (by omega) (by omega)).mono ?_
        rintro e w12 ⟨uo, un, uc, vo, vn, vc, rfl, hu, hv, hb12⟩
        have hun : un ≤ K := rn_of_lt hu (Nat.lt_of_le_of_lt (Nat.div_le_self _ _) HAl.out)
        have hvn : vn ≤ K := rn_of_lt hv (Nat.lt_of_le_of_lt (Nat.mod_le _ _) HAl.out)
        clear hBp
        go_wp2_with fail
        refine (form_ok _ _ _ _ _ hu (by omega)).mono ?_
        rintro e w13 ⟨rfl, hb13⟩
        have hv := hv.below hb13 (Nat.le_refl _)
        go_wp2_with fail
        refine (form_ok _ _ _ _ _ hv (by omega)).mono ?_
        rintro e w14 ⟨rfl, hb14⟩
        have hbx := hb12.trans (hb13.mono hb12.size)
        have hbx := hbx.trans (hb14.mono hbx.size)
        have hrx := hr11.below hbx (Nat.le_refl _); have hqx := hq11.below hbx (Nat.le_refl _)
        have hby := hb11.trans (hbx.mono hb11.size)
        have c3 := hrx.cell (j := 3) rfl; have c4 := hrx.cell (j := 4) rfl; have f3 := hrx.frozen 3; have f4 := hrx.frozen 4
        have hrf : Arr ((w14.setCell ⟨g9, 3, none⟩ (.string (tx (A / B)))).setCell ⟨g9, 4, none⟩ (.string (tx (A % B)))) g9 #[.string (tx (A + B)), .string (tx (A - B)), .string (tx (A * B)), .string (tx (A / B)), .string (tx (A % B))] 35 := (hrx.set 3 _).set 4 _
        have hqf : Arr ((w14.setCell ⟨g9, 3, none⟩ (.string (tx (A / B)))).setCell ⟨g9, 4, none⟩ (.string (tx (A % B)))) w.heap.size #[.string ⟨#[]⟩, .string ⟨#[]⟩, .string ⟨#[]⟩, .string ⟨#[]⟩, .string ⟨#[]⟩] 35 := (hqx.other (a := ⟨g9, 3, none⟩) hne).other (a := ⟨g9, 4, none⟩) hne
        have hbf : Below w.heap.size w ((w14.setCell ⟨g9, 3, none⟩ (.string (tx (A / B)))).setCell ⟨g9, 4, none⟩ (.string (tx (A % B)))) := (hby.setCell hg9w _).setCell hg9w _
        clear hrx hqx hby hbx hb12 hb13 hb14
        go_wp2_with (first
          | (refine wpList_load_row ?_ 35 (.tmp 9) ?_ g9 ?_ 35 #[.string (tx (A + B)), .string (tx (A - B)), .string (tx (A * B)), .string (tx (A / B)), .string (tx (A % B))] (0, 0) _ hrf Tryz.underlying35 ?_ info5 ?_; exact rfl; exact rfl; exact rfl; exact rfl)
          | (refine wpList_store_row ?_ 35 (.tmp 4) (.tmp 56) ?_ w.heap.size #[.string (tx (A + B)), .string (tx (A - B)), .string (tx (A * B)), .string (tx (A / B)), .string (tx (A % B))] ?_ ?_ 35 _ hqf info5 ?_ ?_ ?_; exact rfl; exact rfl; exact rfl; exact rfl; exact rfl; simp [Value.oneCell']))
        have hld := run_loadVar_row (P := Tryz.prog) (((w14.setCell ⟨g9, 3, none⟩ (.string (tx (A / B)))).setCell ⟨g9, 4, none⟩ (.string (tx (A % B)))).setRow w.heap.size #[.string (tx (A + B)), .string (tx (A - B)), .string (tx (A * B)), .string (tx (A / B)), .string (tx (A % B))]) w.heap.size 35 35 #[.string (tx (A + B)), .string (tx (A - B)), .string (tx (A * B)), .string (tx (A / B)), .string (tx (A % B))] (0, 0) _ (setRow_heap _ _ _ _ _ _ hqf) Tryz.underlying35 rfl info5
        refine bodyPost_ret (v := .tuple #[.agg #[.string (tx (A + B)), .string (tx (A - B)), .string (tx (A * B)), .string (tx (A / B)), .string (tx (A % B))], .int .i64 0, .int .i64 0]) ?_ ?_ ?_
        · simp [results, Tryz.results15, asAddr, hld]
        · rfl
        refine ⟨?_, below_setRow hbf (Nat.le_refl _) _⟩
        unfold sm1 sm3 sm4 smE smF
        rw [if_pos HLE.out, if_neg HB0.out, if_neg HB0.out, if_pos HLE.out, if_neg HB0.out]
    · have hcm : cmpN A B = -1 := cmpN_lt (by omega)
      have HCM := Lib.hid hcm; have HLE := Lib.hid hle; have HBP := Lib.hid (show 0 < B by omega); have HB0 := Lib.hid (show ¬ B = 0 by omega)
      have hyz : 0 < yn := by have := HY0.out; omega
      clear hcm hle
      refine (rcmp_any _ _ _ _ _ _ A B _ hx hy).mono ?_
      rintro e w9 ⟨rfl, q, rfl⟩
      rw [HCM.out]
      have hr8 := hr8.drewN q; have hq8 := hq8.drewN q; have hx := hx.drewN q; have hy := hy.drewN q; have hb8 := below_drawn hb8 q
      go_wp2_with fail
      have hBp := HBP.out
      refine (rdiv_any _ _ _ _ _ _ A B _ hx hy HBP.out (by omega) (by omega)).mono ?_
      rintro e w12 ⟨uo, un, uc, vo, vn, vc, rfl, hu, hv, hb12⟩
      have hun : un ≤ K := rn_of_lt hu (Nat.lt_of_le_of_lt (Nat.div_le_self _ _) HAl.out)
      have hvn : vn ≤ K := rn_of_lt hv (Nat.lt_of_le_of_lt (Nat.mod_le _ _) HAl.out)
      clear hBp
      go_wp2_with fail
      refine (form_ok _ _ _ _ _ hu (by omega)).mono ?_
      rintro e w13 ⟨rfl, hb13⟩
      have hv := hv.below hb13 (Nat.le_refl _)
      go_wp2_with fail
      refine (form_ok _ _ _ _ _ hv (by omega)).mono ?_
      rintro e w14 ⟨rfl, hb14⟩
      have hbx := hb12.trans (hb13.mono hb12.size)
      have hbx := hbx.trans (hb14.mono hbx.size)
      have hrx := hr8.below hbx (Nat.le_refl _); have hqx := hq8.below hbx (Nat.le_refl _)
      have hby := hb8.trans (hbx.mono hb8.size)
      have c3 := hrx.cell (j := 3) rfl; have c4 := hrx.cell (j := 4) rfl; have f3 := hrx.frozen 3; have f4 := hrx.frozen 4
      have hrf : Arr ((w14.setCell ⟨g9, 3, none⟩ (.string (tx (A / B)))).setCell ⟨g9, 4, none⟩ (.string (tx (A % B)))) g9 #[.string (tx (A + B)), .string ⟨#[]⟩, .string (tx (A * B)), .string (tx (A / B)), .string (tx (A % B))] 35 := (hrx.set 3 _).set 4 _
      have hqf : Arr ((w14.setCell ⟨g9, 3, none⟩ (.string (tx (A / B)))).setCell ⟨g9, 4, none⟩ (.string (tx (A % B)))) w.heap.size #[.string ⟨#[]⟩, .string ⟨#[]⟩, .string ⟨#[]⟩, .string ⟨#[]⟩, .string ⟨#[]⟩] 35 := (hqx.other (a := ⟨g9, 3, none⟩) hne).other (a := ⟨g9, 4, none⟩) hne
      have hbf : Below w.heap.size w ((w14.setCell ⟨g9, 3, none⟩ (.string (tx (A / B)))).setCell ⟨g9, 4, none⟩ (.string (tx (A % B)))) := (hby.setCell hg9w _).setCell hg9w _
      clear hrx hqx hby hbx hb12 hb13 hb14
      go_wp2_with (first
        | (refine wpList_load_row ?_ 35 (.tmp 9) ?_ g9 ?_ 35 #[.string (tx (A + B)), .string ⟨#[]⟩, .string (tx (A * B)), .string (tx (A / B)), .string (tx (A % B))] (0, 0) _ hrf Tryz.underlying35 ?_ info5 ?_; exact rfl; exact rfl; exact rfl; exact rfl)
        | (refine wpList_store_row ?_ 35 (.tmp 4) (.tmp 56) ?_ w.heap.size #[.string (tx (A + B)), .string ⟨#[]⟩, .string (tx (A * B)), .string (tx (A / B)), .string (tx (A % B))] ?_ ?_ 35 _ hqf info5 ?_ ?_ ?_; exact rfl; exact rfl; exact rfl; exact rfl; exact rfl; simp [Value.oneCell']))
      have hld := run_loadVar_row (P := Tryz.prog) (((w14.setCell ⟨g9, 3, none⟩ (.string (tx (A / B)))).setCell ⟨g9, 4, none⟩ (.string (tx (A % B)))).setRow w.heap.size #[.string (tx (A + B)), .string ⟨#[]⟩, .string (tx (A * B)), .string (tx (A / B)), .string (tx (A % B))]) w.heap.size 35 35 #[.string (tx (A + B)), .string ⟨#[]⟩, .string (tx (A * B)), .string (tx (A / B)), .string (tx (A % B))] (0, 0) _ (setRow_heap _ _ _ _ _ _ hqf) Tryz.underlying35 rfl info5
      refine bodyPost_ret (v := .tuple #[.agg #[.string (tx (A + B)), .string ⟨#[]⟩, .string (tx (A * B)), .string (tx (A / B)), .string (tx (A % B))], .int .i64 32, .int .i64 0]) ?_ ?_ ?_
      · simp [results, Tryz.results15, asAddr, hld]
      · rfl
      refine ⟨?_, below_setRow hbf (Nat.le_refl _) _⟩
      unfold sm1 sm3 sm4 smE smF
      rw [if_neg HLE.out, if_neg HB0.out, if_neg HB0.out, if_neg HLE.out, if_neg HB0.out]
end Go.Proofs.YtbmhiejggkdnkaaGreatDoor
