/- der.among: the walk. -/
import Derived.Test.YtebhiplcoioenaaGreatDoorZDN
import Derived.Test.YtebhiplcoioenaaGreatDoorZDI
namespace Go.Proofs.YtebhiplcoioenaaGreatDoor
open Go.RowKit

theorem eq_i64 (a b : Int) (h : a = b) : (a == b) = true := by simp [h]
theorem ne_i64 (a b : Int) (h : a ≠ b) : (a == b) = false := by simp [h]
def amongV (b : Bool) : Value := if b = true then .nilIface else wrV 65
set_option maxRecDepth 100000 in
set_option maxHeartbeats 4000000 in
theorem among_any (v : Dv) (ad : Option Addr) (cp : Nat) (tags : List Int) (g cap : Nat) (w : World) (hg : ∀ (j : Nat) x, tags[j]? = some x → w.cell? ⟨g, j, none⟩ = some (.int .i64 x)) (_hn : tags.length ≤ 2) (hgl : g < w.heap.size) (hcap : tags.length ≤ cap ∧ cap ≤ MX)
    (hck : ∀ t, t ∈ tags → v.c = 0 → v.t = t → ∀ u, Below w.heap.size w u → Calls Tryz.prog 15 #[dvv v ad cp] u (RetI v.check u)) :
    Calls Tryz.prog 39 #[dvv v ad cp, .slice (some ⟨g, 0, none⟩) tags.length cap] w fun e w' => e = .returned (amongV (tags.any v.isK)) ∧ Below w.heap.size w w' := by
  have hMX := MX_eq
  have hR := Rws.start w
  have HG := Lib.hid hg
  have HCK := Lib.hid hck
  obtain ⟨n, hnn⟩ : ∃ n, n = tags.length := ⟨_, rfl⟩
  obtain ⟨c, t, k, b, l⟩ := v
  obtain ⟨E, hE⟩ : ∃ E, E = (⟨c, t, k, b, l⟩ : Dv).check := ⟨_, rfl⟩
  have HIS : Hid (∀ x, (⟨c, t, k, b, l⟩ : Dv).isK x = (c == 0 && t == x && E == 0)) := Lib.hid fun x => by rw [hE]; rfl
  rw [← hE] at HCK
  have HNN := Lib.hid hnn
  rw [← hnn] at hcap ⊢
  clear hg hck hE hnn
  obtain ⟨hcap1, hcap2⟩ := hcap
  go_enter Tryz.func39, Tryz.ntmps39
  go_upto_region 1 with (refine wpList_box_rws rfl _ _ (by rfl) (by exact hR) (dvC ⟨c, t, k, b, l⟩ ad cp) rfl ?_; intro gb w1 hR)
  go_upto_region 2 with fail
  go_loopg [9] n (fun gg s9 wr => ∃ (i : Nat), i ≤ n ∧ gg = n - i ∧ s9 = .int .i64 (i : Nat) ∧ Aside (Rws w.heap.size w wr [(gb, dvC ⟨c, t, k, b, l⟩ ad cp, 24)]) ∧ Aside ((tags.take i).any (⟨c, t, k, b, l⟩ : Dv).isK = false))
  case atStart => exact ⟨0, Nat.zero_le _, rfl, rfl, hR, (show (tags.take 0).any _ = false from by rw [List.take_zero]; rfl)⟩
  case round =>
    obtain ⟨i, hil, rfl, rfl, HR, HT⟩ := hrel
    by_cases hlt : i < n
    · have hltz : (i : Int) < (n : Int) := by omega
      obtain ⟨x, hx⟩ : ∃ x, tags[i]? = some x := ⟨tags[i]'(by have := HNN.out; omega), List.getElem?_eq_getElem _⟩
      have hxm : x ∈ tags := List.mem_of_getElem? hx
      have fx := (HR.out.below.cell (p := ⟨g, i, none⟩) hgl).trans (HG.out i x hx)
      have f0 := HR.out.cellAt (g := gb) (List.Mem.head _) 0 rfl
      have f1 := HR.out.cellAt (g := gb) (List.Mem.head _) 1 rfl
      have f2 := HR.out.cellAt (g := gb) (List.Mem.head _) 2 rfl
      have f3 := HR.out.cellAt (g := gb) (List.Mem.head _) 3 rfl
      have f4 := HR.out.cellAt (g := gb) (List.Mem.head _) 4 rfl
      have HTK : Hid (tags.take (i + 1) = tags.take i ++ [x]) := Lib.hid (by
        rw [List.take_add_one, hx]; rfl)
      have HXM := Lib.hid hxm
      clear hR hx hxm
      by_cases hc : c = 0
      · subst hc
        by_cases ht : t = x
        · have htz := eq_i64 t x ht
          have HCC : Hid (∀ u, Below w.heap.size w u → Calls Tryz.prog 15 #[.agg #[.int .i64 0, .int .i64 t, .bool k, .string (bs b), .slice ad l.len cp]] u (RetI E u)) := Lib.hid (HCK.out x HXM.out rfl ht)
          have HTX := Lib.hid ht
          clear ht
          by_cases he : E = 0
          · have hyes : Hid (tags.any (⟨0, t, k, b, l⟩ : Dv).isK = true) := Lib.hid (List.any_eq_true.2 ⟨x, HXM.out, by rw [HIS.out, HTX.out, he]; simp⟩)
            subst he
            go_wp2_with (go_at_call 15; refine (HCC.out _ HR.out.below).mono ?_; rintro e w2 ⟨rfl, hb2⟩)
            go_ret
            rw [hyes.out]
            exact ⟨rfl, (HR.out.call hb2).below⟩
          · have hez : (E == 0) = false := by simpa using he
            have HEZ := Lib.hid hez
            clear he
            go_wp2_with (go_at_call 15; refine (HCC.out _ HR.out.below).mono ?_; rintro e w2 ⟨rfl, hb2⟩)
            go_roundg (n - (i + 1))
            case measure => omega
            case rel =>
              refine ⟨i + 1, by omega, rfl, by go_num, HR.out.call hb2, ?_⟩
              show List.any _ _ = false
              rw [HTK.out, List.any_append, HT.out]
              simp only [List.any_cons, List.any_nil, Bool.or_false, Bool.false_or]
              rw [HIS.out, HEZ.out]
              simp
        · have htz := ne_i64 t x ht
          have HTZ := Lib.hid htz
          clear ht
          go_wp2_with fail
          go_roundg (n - (i + 1))
          case measure => omega
          case rel =>
            refine ⟨i + 1, by omega, rfl, by go_num, HR.out, ?_⟩
            show List.any _ _ = false
            rw [HTK.out, List.any_append, HT.out]
            simp only [List.any_cons, List.any_nil, Bool.or_false, Bool.false_or]
            rw [HIS.out, HTZ.out]
            simp
      · have hcz := ne_i64 c 0 hc
        have HCZ := Lib.hid hcz
        clear hc
        go_wp2_with fail
        go_roundg (n - (i + 1))
        case measure => omega
        case rel =>
          refine ⟨i + 1, by omega, rfl, by go_num, HR.out, ?_⟩
          show List.any _ _ = false
          rw [HTK.out, List.any_append, HT.out]
          simp only [List.any_cons, List.any_nil, Bool.or_false, Bool.false_or]
          rw [HIS.out, HCZ.out]
          simp
    · have hltz : ¬ (i : Int) < (n : Int) := by omega
      go_wp2_with fail
      go_ret
      have hno := HT.out
      rw [List.take_of_length_le (l := tags) (i := i) (by have := HNN.out; omega)] at hno
      rw [hno]
      exact ⟨rfl, HR.out.below⟩
end Go.Proofs.YtebhiplcoioenaaGreatDoor
