/-
  The walks of the law's awake and do.
-/
import Derived.Test.YtpapgldjmglaiaaWalkd
namespace Go.Proofs.Ytpapgldjmglaiaa
open Go.RowKit

def A0 : Ac := ⟨500, 3, -1, 0, 0, fun _ => 0⟩
def A1 : Ac := (A0.credit 0 1001).1
def A2 : Ac := (A1.credit 2 200).1
def A3 : Ac := (A2.claim 2 550).1
theorem ok0 : A0.Ok 0 := ok_new (by omega) (by omega) (by omega) (by omega)
theorem ok1 : A1.Ok 1 := Ac.credit_ok ok0 (by omega) _ _
theorem ok2 : A2.Ok 2 := Ac.credit_ok ok1 (by omega) _ _
theorem ok3 : A3.Ok 3 := Ac.claim_ok ok2 (by omega) _ _

/-- A call that returns an integer. -/
def Ret (n : Int) (R : World → Prop) (e : Ending) (w' : World) : Prop := e = .returned (.int .i64 n) ∧ R w'

section
variable {g r K : Nat} {a a' : Ac} {per vol c : Int} {w : World}
theorem credit_to (h : IsA w g r a) (ok : a.Ok K) (e1 : (a.credit per vol).1 = a') (e2 : (a.credit per vol).2 = c) : Calls Try.prog 17 #[.pointer (some ⟨g, 0, none⟩), .int .i64 per, .int .i64 vol] w (Left1 g r w (a', c)) := by
  have := credit_any g r K a per vol w h ok
  rwa [show a.credit per vol = (a', c) from by rw [← e1, ← e2]] at this
theorem claim_to (h : IsA w g r a) (ok : a.Ok K) (e1 : (a.claim per vol).1 = a') (e2 : (a.claim per vol).2 = c) : Calls Try.prog 18 #[.pointer (some ⟨g, 0, none⟩), .int .i64 per, .int .i64 vol] w (Left1 g r w (a', c)) := by
  have := claim_any g r K a per vol w h ok
  rwa [show a.claim per vol = (a', c) from by rw [← e1, ← e2]] at this
theorem left_to (h : IsA w g r a) (ok : a.Ok K) (e : a.left per = c) : Calls Try.prog 15 #[.pointer (some ⟨g, 0, none⟩), .int .i64 per] w fun e w' => e = .returned (.int .i64 c) ∧ IsA w' g r a ∧ Same w w' :=
  (left_any g r K a per w h ok).mono fun _ _ ⟨he, hs⟩ => ⟨by rw [← e]; exact he, h.same hs, hs⟩
theorem expired_to (h : IsA w g r a) (ok : a.Ok K) (e : a.expired per = c) : Calls Try.prog 16 #[.pointer (some ⟨g, 0, none⟩), .int .i64 per] w fun e w' => e = .returned (.int .i64 c) ∧ IsA w' g r a ∧ Same w w' :=
  (expired_any g r K a per w h ok).mono fun _ _ ⟨he, hs⟩ => ⟨by rw [← e]; exact he, h.same hs, hs⟩
theorem totals_to {c d : Int} (h : IsA w g r a) (e1 : a.cr = c) (e2 : a.cl = d) : Calls Try.prog 14 #[.pointer (some ⟨g, 0, none⟩)] w fun e w' => e = .returned (.tuple #[.int .i64 c, .int .i64 d]) ∧ IsA w' g r a ∧ Same w w' :=
  (totals_any g r a w h).mono fun _ _ ⟨he, hs⟩ => ⟨by rw [← e1, ← e2]; exact he, h.same hs, hs⟩
end

set_option maxRecDepth 100000 in
set_option maxHeartbeats 2000000 in
theorem awake_any (w : World) : Calls Try.prog 10 #[] w fun e w' => e = .returned (.bool true) ∧ Below w.heap.size w w' := by
  go_enter Try.func10, Try.ntmps10
  go_wp2_with fail
  refine (new_ok 500 3 _ (by omega) (by omega) (by omega) (by omega)).mono ?_
  rintro e w1 ⟨rfl, hA, hb⟩
  have hA1 : IsA w1 (w.heap.size + 1) w.heap.size A0 := hA
  have S1 : Fr (fun i => i = w.heap.size + 1 ∨ i = w.heap.size) w1 w1 := Fr.refl _ _
  clear hA
  go_wp2_with fail
  refine (credit_to (a' := A1) (c := 0) hA1 ok0 rfl (by decide +kernel)).mono ?_
  rintro e w2 ⟨rfl, hA2, hf2⟩
  have S2 := S1.trans hf2
  clear hA1 S1 hf2
  go_wp2_with fail
  refine (credit_to (a' := A2) (c := 0) hA2 ok1 rfl (by decide +kernel)).mono ?_
  rintro e w3 ⟨rfl, hA3, hf3⟩
  have S3 := S2.trans hf3
  clear hA2 S2 hf3
  go_wp2_with fail
  refine (left_to (c := 600) hA3 ok2 (by decide +kernel)).mono ?_
  rintro e w4 ⟨rfl, hA4, hf4⟩
  have S4 := S3.trans (hf4.to _)
  clear hA3 S3 hf4
  go_wp2_with fail
  refine (left_to (c := 100) hA4 ok2 (by decide +kernel)).mono ?_
  rintro e w5 ⟨rfl, hA5, hf5⟩
  have S5 := S4.trans (hf5.to _)
  clear hA4 S4 hf5
  go_wp2_with fail
  refine (expired_to (c := 500) hA5 ok2 (by decide +kernel)).mono ?_
  rintro e w6 ⟨rfl, hA6, hf6⟩
  have S6 := S5.trans (hf6.to _)
  clear hA5 S5 hf6
  go_wp2_with fail
  refine (totals_to (c := 600) (d := 0) hA6 (by decide +kernel) (by decide +kernel)).mono ?_
  rintro e w7 ⟨rfl, hA7, hf7⟩
  have S7 := S6.trans (hf7.to _)
  clear hA6 S6 hf7
  go_wp2_with fail
  refine (claim_to (a' := A3) (c := 0) hA7 ok2 rfl (by decide +kernel)).mono ?_
  rintro e w8 ⟨rfl, hA8, hf8⟩
  have S8 := S7.trans hf8
  clear hA7 S7 hf8
  go_wp2_with fail
  refine (left_to (c := 50) hA8 ok3 (by decide +kernel)).mono ?_
  rintro e w9 ⟨rfl, hA9, hf9⟩
  have S9 := S8.trans (hf9.to _)
  clear hA8 S8 hf9
  go_wp2_with fail
  refine (expired_to (c := 0) hA9 ok3 (by decide +kernel)).mono ?_
  rintro e w10 ⟨rfl, hA10, hf10⟩
  have S10 := S9.trans (hf10.to _)
  clear hA9 S9 hf10
  go_wp2_with fail
  refine (claim_to (a' := A3) (c := 15) hA10 ok3 rfl (by decide +kernel)).mono ?_
  rintro e w11 ⟨rfl, hA11, hf11⟩
  have S11 := S10.trans hf11
  clear hA10 S10 hf11
  go_wp2_with fail
  refine (claim_to (a' := A3) (c := 23) hA11 ok3 rfl (by decide +kernel)).mono ?_
  rintro e w12 ⟨rfl, hA12, hf12⟩
  have S12 := S11.trans hf12
  clear hA11 S11 hf12
  go_wp2
  go_ret
  exact ⟨rfl, hb.trans (S12.below hb.size (fun i _ h => by omega))⟩

end Go.Proofs.Ytpapgldjmglaiaa
