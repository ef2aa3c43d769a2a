/- PolicyTells: the law's walk. -/
import Derived.Test.YthpagppipifgeaaGreatDoorZLLawKit
import Derived.Test.YthpagppipifgeaaGreatDoorZLFixed
import Derived.Test.YthpagppipifgeaaGreatDoorZLI
namespace Go.Proofs.YthpagppipifgeaaGreatDoor.policyTells
open Go.RowKit

set_option maxRecDepth 100000 in
set_option maxHeartbeats 4000000 in
theorem law_any (k1 o1 : Int) (n1 t1 : ByteArray) (a1 : Option Addr) (c1 : Nat) (F1 : Fo) (x : Fx) (w : World) (hn1 : n1.size ≤ SB) (ht1 : t1.size ≤ SB) (_ : F1.len ≤ LB) (_ : F1.lens LB) (hs1 : SlF w F1 a1 c1) (hk1 : F1.cnt ≤ 174763) (hx : FxAt w x) :
    Calls Tryz.prog 3 #[pv k1 o1 n1 t1 a1 F1.len c1, x.v] w (RetB true w) := by
  have hR := Rws.start w
  have hk : F1.cnt ≤ 1000000 := by omega
  go_enter Tryz.func3, Tryz.ntmps3
  go_upto_region 1 with (first
    | (refine wpList_box_rws rfl _ _ (by rfl) (by assumption) #[.int .i64 k1, .int .i64 o1, .string n1, .string t1, .slice a1 F1.len c1] rfl ?_; intro gp w2 hR)
    | (refine wpList_box_rws rfl _ _ (by rfl) (by assumption) #[.string x.m, .string x.p, .slice x.a1 x.cl.length x.c1, .slice x.a2 x.ce.length x.c2] rfl ?_; intro gf w3 hR))
  have hB3 := hR.below
  have HP1 : Hid (∀ u, Below w3.heap.size w3 u → Calls Tryz.prog 9 #[pv k1 o1 n1 t1 a1 F1.len c1] u (RetSI (bs (printP k1 o1 n1 t1 F1).1) (printP k1 o1 n1 t1 F1).2 u)) := Lib.hid (fun u hb => Print_any k1 o1 n1 t1 F1 a1 c1 u hn1 ht1 (fun _ => hk) (hs1.grown (hB3.trans (hb.mono hB3.size))))
  have HP2 : Hid (∀ u, Below w3.heap.size w3 u → Calls Tryz.prog 10 #[pv k1 o1 n1 t1 a1 F1.len c1] u (RetSI (bs (printP k1 o1 n1 t1 F1).1) (printP k1 o1 n1 t1 F1).2 u)) := Lib.hid (fun u hb => PrintR_any k1 o1 n1 t1 F1 a1 c1 u hn1 ht1 hk (hs1.grown (hB3.trans (hb.mono hB3.size))))
  have HC1 : Hid (∀ u, Below w3.heap.size w3 u → Calls Tryz.prog 11 #[pv k1 o1 n1 t1 a1 F1.len c1] u (RetI (chkP k1 o1 n1 t1 F1) u)) := Lib.hid (fun u hb => Check_any k1 o1 n1 t1 F1 a1 c1 u hn1 ht1 (hs1.grown (hB3.trans (hb.mono hB3.size))))
  have HC2 : Hid (∀ u, Below w3.heap.size w3 u → Calls Tryz.prog 12 #[pv k1 o1 n1 t1 a1 F1.len c1] u (RetI (chkP k1 o1 n1 t1 F1) u)) := Lib.hid (fun u hb => CheckR_any k1 o1 n1 t1 F1 a1 c1 u hn1 ht1 (hs1.grown (hB3.trans (hb.mono hB3.size))) hk)
  have HH1 : Hid (∀ u, Below w3.heap.size w3 u → Calls Tryz.prog 13 #[pv k1 o1 n1 t1 a1 F1.len c1, x.v] u (RetB (holdsP x k1 o1 n1 t1 F1) u)) := Lib.hid (fun u hb => Holds_any k1 o1 n1 t1 F1 a1 c1 x u hn1 ht1 (hs1.grown (hB3.trans (hb.mono hB3.size))) (hx.below (hB3.trans (hb.mono hB3.size)) (Nat.le_refl _)))
  have HH2 : Hid (∀ u, Below w3.heap.size w3 u → Calls Tryz.prog 14 #[pv k1 o1 n1 t1 a1 F1.len c1, x.v] u (RetB (holdsP x k1 o1 n1 t1 F1) u)) := Lib.hid (fun u hb => HoldsR_any k1 o1 n1 t1 F1 a1 c1 x u (hs1.grown (hB3.trans (hb.mono hB3.size))) (hx.below (hB3.trans (hb.mono hB3.size)) (Nat.le_refl _)) hn1 ht1 hk)
  have HB : Hid (Below w.heap.size w w3) := Lib.hid hB3
  have hB0 : Below w3.heap.size w3 w3 := Below.refl _ _
  clear hs1 hx hB3 hk1 hn1 ht1 hk
  generalize bs (printP k1 o1 n1 t1 F1).1 = S at *
  generalize (printP k1 o1 n1 t1 F1).2 = E at *
  generalize chkP k1 o1 n1 t1 F1 = C at *
  generalize holdsP x k1 o1 n1 t1 F1 = hv at *
  generalize F1.len = L1 at *
  have DC : Hid (∀ w v, AtW w3 (pv k1 o1 n1 t1 a1 L1 c1) w v → Calls Tryz.prog 11 #[v] w (RW (Is (.int .i64 C)) w)) := Lib.hid fun w v ⟨hv, hb⟩ => by subst hv; exact (HC1.out w hb).mono fun _ _ h => rw_i h
  have DCR : Hid (∀ w v, AtW w3 (pv k1 o1 n1 t1 a1 L1 c1) w v → Calls Tryz.prog 12 #[v] w (RW (Is (.int .i64 C)) w)) := Lib.hid fun w v ⟨hv, hb⟩ => by subst hv; exact (HC2.out w hb).mono fun _ _ h => rw_i h
  have DH : Hid (∀ w v u, AtW w3 (pv k1 o1 n1 t1 a1 L1 c1) w v → AtW w3 x.v w u → Calls Tryz.prog 13 #[v, u] w (RW (Is (.bool hv)) w)) := Lib.hid fun w v u ⟨h1, hb⟩ ⟨h2, _⟩ => by subst h1; subst h2; exact (HH1.out w hb).mono fun _ _ h => rw_b h
  have DHR : Hid (∀ w v u, AtW w3 (pv k1 o1 n1 t1 a1 L1 c1) w v → AtW w3 x.v w u → Calls Tryz.prog 14 #[v, u] w (RW (Is (.bool hv)) w)) := Lib.hid fun w v u ⟨h1, hb⟩ ⟨h2, _⟩ => by subst h1; subst h2; exact (HH2.out w hb).mono fun _ _ h => rw_b h
  go_upto_region 3 with (first
    | (refine wpList_load_rws rfl _ _ (by rfl) (by assumption) _ rfl _ _ (by repeat (first | exact List.Mem.head _ | refine List.Mem.tail _ ?_)) _ Tryz.underlying24 rfl (by kernel_rfl) ?_)
    | (go_at_call 9; refine (HP1.out _ hB0).mono ?_; rintro e w4 ⟨rfl, hb⟩; have hB0 := b_trans hB0 hb; have hR := hR.call hb; clear hb)
    | (go_at_call 10; refine (HP2.out _ hB0).mono ?_; rintro e w5 ⟨rfl, hb⟩; have hB0 := b_trans hB0 hb; have hR := hR.call hb; clear hb))
  refine wp_region_softG 27 (by kernel_rfl) (by kernel_rfl) (by rfl) hR ?_
  refine g_move (R := Is (.string S)) (by rfl) (stb_is _) (by exact fun _ _ _ h => h) ?_
  refine g_move (R := Is (.string S)) (by rfl) (stb_is _) (by exact fun _ _ _ h => h) ?_
  refine g_bin (v := .string S) (u := .string S) (r := .bool true) (by rfl) (by exact fun _ _ _ h => h) (by exact fun _ _ _ h => h) (by rfl) (eql_str S) ?_
  refine g_move (R := Is (.bool true)) (by rfl) (stb_is _) (by exact fun _ _ _ h => h) ?_
  refine g_move (R := Is (.int .i64 E)) (by rfl) (stb_is _) (by exact fun _ _ _ h => h) ?_
  refine g_move (R := Is (.int .i64 E)) (by rfl) (stb_is _) (by exact fun _ _ _ h => h) ?_
  refine g_bin (v := .int .i64 E) (u := .int .i64 E) (r := .bool true) (by rfl) (by exact fun _ _ _ h => h) (by exact fun _ _ _ h => h) (by rfl) (eql_errno E) ?_
  refine g_pick (b := true) (R := Is (.bool true)) (by rfl) (by exact fun _ _ _ h => h) (stb_is _) (by exact fun _ _ _ h => h) ?_
  refine g_move (R := Is (.bool true)) (by rfl) (stb_is _) (by exact fun _ _ _ h => h) ?_
  refine g_ldw (g := gp) (cs := #[.int .i64 k1, .int .i64 o1, .string n1, .string t1, .slice a1 L1 c1]) (R := AtW w3 (pv k1 o1 n1 t1 a1 L1 c1)) (by rfl) (by exact fun _ _ _ h => h) (by repeat (first | exact List.Mem.head _ | refine List.Mem.tail _ ?_)) Tryz.underlying24 rfl pol_inf (stb_atw w3 _) (by exact fun _ hb => ⟨rfl, b_trans hB0 hb⟩) ?_
  refine g_call1 (A := AtW w3 (pv k1 o1 n1 t1 a1 L1 c1)) (R := Is (.int .i64 C)) (by rfl) Tryz.func11 (by kernel_rfl) rfl (stb_is _) (by exact fun _ _ _ h => h) DC.out ?_
  refine g_ldw (g := gp) (cs := #[.int .i64 k1, .int .i64 o1, .string n1, .string t1, .slice a1 L1 c1]) (R := AtW w3 (pv k1 o1 n1 t1 a1 L1 c1)) (by rfl) (by exact fun _ _ _ h => h) (by repeat (first | exact List.Mem.head _ | refine List.Mem.tail _ ?_)) Tryz.underlying24 rfl pol_inf (stb_atw w3 _) (by exact fun _ hb => ⟨rfl, b_trans hB0 hb⟩) ?_
  refine g_call1 (A := AtW w3 (pv k1 o1 n1 t1 a1 L1 c1)) (R := Is (.int .i64 C)) (by rfl) Tryz.func12 (by kernel_rfl) rfl (stb_is _) (by exact fun _ _ _ h => h) DCR.out ?_
  refine g_bin (v := .int .i64 C) (u := .int .i64 C) (r := .bool true) (by rfl) (by exact fun _ _ _ h => h) (by exact fun _ _ _ h => h) (by rfl) (eql_errno C) ?_
  refine g_pick (b := true) (R := Is (.bool true)) (by rfl) (by exact fun _ _ _ h => h) (stb_is _) (by exact fun _ _ _ h => h) ?_
  refine g_move (R := Is (.bool true)) (by rfl) (stb_is _) (by exact fun _ _ _ h => h) ?_
  refine g_ldw (g := gp) (cs := #[.int .i64 k1, .int .i64 o1, .string n1, .string t1, .slice a1 L1 c1]) (R := AtW w3 (pv k1 o1 n1 t1 a1 L1 c1)) (by rfl) (by exact fun _ _ _ h => h) (by repeat (first | exact List.Mem.head _ | refine List.Mem.tail _ ?_)) Tryz.underlying24 rfl pol_inf (stb_atw w3 _) (by exact fun _ hb => ⟨rfl, b_trans hB0 hb⟩) ?_
  refine g_ldw (g := gf) (cs := #[.string x.m, .string x.p, .slice x.a1 x.cl.length x.c1, .slice x.a2 x.ce.length x.c2]) (R := AtW w3 x.v) (by rfl) (by exact fun _ _ _ h => h) (by repeat (first | exact List.Mem.head _ | refine List.Mem.tail _ ?_)) Tryz.underlying27 rfl fac_inf (stb_atw w3 _) (by exact fun _ hb => ⟨rfl, b_trans hB0 hb⟩) ?_
  refine g_call2 (A := AtW w3 (pv k1 o1 n1 t1 a1 L1 c1)) (A' := AtW w3 x.v) (R := Is (.bool hv)) (by rfl) Tryz.func13 (by kernel_rfl) rfl (stb_is _) (by exact fun _ _ _ h => h) (by exact fun _ _ _ h => h) DH.out ?_
  refine g_ldw (g := gp) (cs := #[.int .i64 k1, .int .i64 o1, .string n1, .string t1, .slice a1 L1 c1]) (R := AtW w3 (pv k1 o1 n1 t1 a1 L1 c1)) (by rfl) (by exact fun _ _ _ h => h) (by repeat (first | exact List.Mem.head _ | refine List.Mem.tail _ ?_)) Tryz.underlying24 rfl pol_inf (stb_atw w3 _) (by exact fun _ hb => ⟨rfl, b_trans hB0 hb⟩) ?_
  refine g_ldw (g := gf) (cs := #[.string x.m, .string x.p, .slice x.a1 x.cl.length x.c1, .slice x.a2 x.ce.length x.c2]) (R := AtW w3 x.v) (by rfl) (by exact fun _ _ _ h => h) (by repeat (first | exact List.Mem.head _ | refine List.Mem.tail _ ?_)) Tryz.underlying27 rfl fac_inf (stb_atw w3 _) (by exact fun _ hb => ⟨rfl, b_trans hB0 hb⟩) ?_
  refine g_call2 (A := AtW w3 (pv k1 o1 n1 t1 a1 L1 c1)) (A' := AtW w3 x.v) (R := Is (.bool hv)) (by rfl) Tryz.func14 (by kernel_rfl) rfl (stb_is _) (by exact fun _ _ _ h => h) (by exact fun _ _ _ h => h) DHR.out ?_
  refine g_bin (v := .bool hv) (u := .bool hv) (r := .bool true) (by rfl) (by exact fun _ _ _ h => h) (by exact fun _ _ _ h => h) (by rfl) (eql_bool hv) ?_
  refine g_pick (b := true) (R := Is (.bool true)) (by rfl) (by exact fun _ _ _ h => h) (stb_is _) (by exact fun _ _ _ h => h) ?_
  refine g_move (R := Is (.bool true)) (by rfl) (stb_is _) (by exact fun _ _ _ h => h) ?_
  refine g_call (f := 15) (xs := []) (R := Is (.bool true)) (by rfl) Tryz.func15 (by kernel_rfl) rfl (stb_is _) (by exact fun w _ _ _ => (fixed_any w).mono fun _ _ h => rw_b h) ?_
  refine g_pick (b := true) (R := Is (.bool true)) (by rfl) (by exact fun _ _ _ h => h) (stb_is _) (by exact fun _ _ _ h => h) ?_
  intro w6 hR hb6 v19 h19 v20 h20 v21 h21 v22 h22 v23 h23 v24 h24 v25 h25 v26 h26 v27 h27 v28 h28 v29 h29 v30 h30 v31 h31 v32 h32 v33 h33 v34 h34 v35 h35 v36 h36 v37 h37 v38 h38 v39 h39 v40 h40 v41 h41 v42 h42 v43 h43 v44 h44 v45 h45
  simp only [softEnd, Act.put, List.setIfInBounds_toArray, List.set_cons_succ, List.set_cons_zero, List.drop_succ_cons, List.drop_zero]
  have hB0 := b_trans hB0 hb6
  obtain rfl : v45 = .bool true := h45
  clear h19 h20 h21 h22 h23 h24 h25 h26 h27 h28 h29 h30 h31 h32 h33 h34 h35 h36 h37 h38 h39 h40 h41 h42 h43 h44
  go_wp2_with fail
  go_ret
  exact ⟨rfl, b_trans HB.out hB0⟩
end Go.Proofs.YthpagppipifgeaaGreatDoor.policyTells
