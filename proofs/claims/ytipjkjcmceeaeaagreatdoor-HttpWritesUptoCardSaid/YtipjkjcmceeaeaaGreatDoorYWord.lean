/- The words of statuses: the walks. -/
import Derived.Test.YtipjkjcmceeaeaaGreatDoorYRws
import Derived.Test.YtipjkjcmceeaeaaGreatDoorYDefs
import Derived.Deep.Light
namespace Go.Proofs.YtipjkjcmceeaeaaGreatDoor
open Go.RowKit

set_option maxRecDepth 100000 in
set_option maxHeartbeats 2000000 in
theorem word_any (n : Int) (w : World) : Calls Tryz.prog 45 #[.int .i64 n] w fun e w' => e = .returned (.string (bs (wordS n))) ∧ w' = w := by
  by_cases h200 : n = 200
  · have z : (n == (200 : Int)) = true := by rw [h200]; rfl
    have HR : Hid (bs (wordS n) = bs (wordS 200)) := Lib.hid (by rw [h200])
    clear h200
    go_enter Tryz.func45, Tryz.ntmps45
    go_wp2_with fail
    go_ret
    rw [HR.out]
    exact ⟨rfl, rfl⟩
  have z200 : (n == (200 : Int)) = false := by simpa using h200
  by_cases h400 : n = 400
  · have z : (n == (400 : Int)) = true := by rw [h400]; rfl
    have HR : Hid (bs (wordS n) = bs (wordS 400)) := Lib.hid (by rw [h400])
    clear h200 h400
    go_enter Tryz.func45, Tryz.ntmps45
    go_wp2_with fail
    go_ret
    rw [HR.out]
    exact ⟨rfl, rfl⟩
  have z400 : (n == (400 : Int)) = false := by simpa using h400
  by_cases h401 : n = 401
  · have z : (n == (401 : Int)) = true := by rw [h401]; rfl
    have HR : Hid (bs (wordS n) = bs (wordS 401)) := Lib.hid (by rw [h401])
    clear h200 h400 h401
    go_enter Tryz.func45, Tryz.ntmps45
    go_wp2_with fail
    go_ret
    rw [HR.out]
    exact ⟨rfl, rfl⟩
  have z401 : (n == (401 : Int)) = false := by simpa using h401
  by_cases h403 : n = 403
  · have z : (n == (403 : Int)) = true := by rw [h403]; rfl
    have HR : Hid (bs (wordS n) = bs (wordS 403)) := Lib.hid (by rw [h403])
    clear h200 h400 h401 h403
    go_enter Tryz.func45, Tryz.ntmps45
    go_wp2_with fail
    go_ret
    rw [HR.out]
    exact ⟨rfl, rfl⟩
  have z403 : (n == (403 : Int)) = false := by simpa using h403
  by_cases h404 : n = 404
  · have z : (n == (404 : Int)) = true := by rw [h404]; rfl
    have HR : Hid (bs (wordS n) = bs (wordS 404)) := Lib.hid (by rw [h404])
    clear h200 h400 h401 h403 h404
    go_enter Tryz.func45, Tryz.ntmps45
    go_wp2_with fail
    go_ret
    rw [HR.out]
    exact ⟨rfl, rfl⟩
  have z404 : (n == (404 : Int)) = false := by simpa using h404
  by_cases h431 : n = 431
  · have z : (n == (431 : Int)) = true := by rw [h431]; rfl
    have HR : Hid (bs (wordS n) = bs (wordS 431)) := Lib.hid (by rw [h431])
    clear h200 h400 h401 h403 h404 h431
    go_enter Tryz.func45, Tryz.ntmps45
    go_wp2_with fail
    go_ret
    rw [HR.out]
    exact ⟨rfl, rfl⟩
  have z431 : (n == (431 : Int)) = false := by simpa using h431
  by_cases h503 : n = 503
  · have z : (n == (503 : Int)) = true := by rw [h503]; rfl
    have HR : Hid (bs (wordS n) = bs (wordS 503)) := Lib.hid (by rw [h503])
    clear h200 h400 h401 h403 h404 h431 h503
    go_enter Tryz.func45, Tryz.ntmps45
    go_wp2_with fail
    go_ret
    rw [HR.out]
    exact ⟨rfl, rfl⟩
  have z503 : (n == (503 : Int)) = false := by simpa using h503
  have HR : Hid (bs (wordS n) = bs []) := Lib.hid (by unfold wordS; rw [if_neg h200, if_neg h400, if_neg h401, if_neg h403, if_neg h404, if_neg h431, if_neg h503])
  clear h200 h400 h401 h403 h404 h431 h503
  go_enter Tryz.func45, Tryz.ntmps45
  go_wp2_with fail
  go_ret
  rw [HR.out]
  exact ⟨rfl, rfl⟩
set_option maxRecDepth 100000 in
set_option maxHeartbeats 2000000 in
theorem Word_any (n : Int) (w : World) : Calls Tryz.prog 48 #[.int .i64 n] w fun e w' => e = .returned (.string (bs (wordS n))) ∧ w' = w := by
  by_cases h200 : n = 200
  · have z : (n == (200 : Int)) = true := by rw [h200]; rfl
    have HR : Hid (bs (wordS n) = bs (wordS 200)) := Lib.hid (by rw [h200])
    clear h200
    go_enter Tryz.func48, Tryz.ntmps48
    go_wp2_with fail
    go_ret
    rw [HR.out]
    exact ⟨rfl, rfl⟩
  have z200 : (n == (200 : Int)) = false := by simpa using h200
  by_cases h400 : n = 400
  · have z : (n == (400 : Int)) = true := by rw [h400]; rfl
    have HR : Hid (bs (wordS n) = bs (wordS 400)) := Lib.hid (by rw [h400])
    clear h200 h400
    go_enter Tryz.func48, Tryz.ntmps48
    go_wp2_with fail
    go_ret
    rw [HR.out]
    exact ⟨rfl, rfl⟩
  have z400 : (n == (400 : Int)) = false := by simpa using h400
  by_cases h401 : n = 401
  · have z : (n == (401 : Int)) = true := by rw [h401]; rfl
    have HR : Hid (bs (wordS n) = bs (wordS 401)) := Lib.hid (by rw [h401])
    clear h200 h400 h401
    go_enter Tryz.func48, Tryz.ntmps48
    go_wp2_with fail
    go_ret
    rw [HR.out]
    exact ⟨rfl, rfl⟩
  have z401 : (n == (401 : Int)) = false := by simpa using h401
  by_cases h403 : n = 403
  · have z : (n == (403 : Int)) = true := by rw [h403]; rfl
    have HR : Hid (bs (wordS n) = bs (wordS 403)) := Lib.hid (by rw [h403])
    clear h200 h400 h401 h403
    go_enter Tryz.func48, Tryz.ntmps48
    go_wp2_with fail
    go_ret
    rw [HR.out]
    exact ⟨rfl, rfl⟩
  have z403 : (n == (403 : Int)) = false := by simpa using h403
  by_cases h404 : n = 404
  · have z : (n == (404 : Int)) = true := by rw [h404]; rfl
    have HR : Hid (bs (wordS n) = bs (wordS 404)) := Lib.hid (by rw [h404])
    clear h200 h400 h401 h403 h404
    go_enter Tryz.func48, Tryz.ntmps48
    go_wp2_with fail
    go_ret
    rw [HR.out]
    exact ⟨rfl, rfl⟩
  have z404 : (n == (404 : Int)) = false := by simpa using h404
  by_cases h431 : n = 431
  · have z : (n == (431 : Int)) = true := by rw [h431]; rfl
    have HR : Hid (bs (wordS n) = bs (wordS 431)) := Lib.hid (by rw [h431])
    clear h200 h400 h401 h403 h404 h431
    go_enter Tryz.func48, Tryz.ntmps48
    go_wp2_with fail
    go_ret
    rw [HR.out]
    exact ⟨rfl, rfl⟩
  have z431 : (n == (431 : Int)) = false := by simpa using h431
  by_cases h503 : n = 503
  · have z : (n == (503 : Int)) = true := by rw [h503]; rfl
    have HR : Hid (bs (wordS n) = bs (wordS 503)) := Lib.hid (by rw [h503])
    clear h200 h400 h401 h403 h404 h431 h503
    go_enter Tryz.func48, Tryz.ntmps48
    go_wp2_with fail
    go_ret
    rw [HR.out]
    exact ⟨rfl, rfl⟩
  have z503 : (n == (503 : Int)) = false := by simpa using h503
  have HR : Hid (bs (wordS n) = bs []) := Lib.hid (by unfold wordS; rw [if_neg h200, if_neg h400, if_neg h401, if_neg h403, if_neg h404, if_neg h431, if_neg h503])
  clear h200 h400 h401 h403 h404 h431 h503
  go_enter Tryz.func48, Tryz.ntmps48
  go_wp2_with fail
  go_ret
  rw [HR.out]
  exact ⟨rfl, rfl⟩
end Go.Proofs.YtipjkjcmceeaeaaGreatDoor
