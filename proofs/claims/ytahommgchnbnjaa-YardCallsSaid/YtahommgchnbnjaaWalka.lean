/-
  The walks of size, room and first; what New, Put and the others do at nil.
-/
import Derived.Test.YtahommgchnbnjaaMem
namespace Go.Proofs.Ytahommgchnbnjaa
open Go.RowKit

def lenAt (ys : List (List Ent)) (k : Nat) : Nat := (ys[k]?.getD []).length
/-- The room in the first k bays other than bay i. -/
def roomK (c : Nat) (ys : List (List Ent)) (i : Nat) : Nat → Nat
  | 0 => 0
  | k + 1 => roomK c ys i k + (if k = i then 0 else c - lenAt ys k)
theorem lenAt_bay {ls : List Bay} {k : Nat} {x : Bay} (hx : ls[k]? = some x) : lenAt (ls.map Bay.es) k = x.es.length := by simp [lenAt, hx]
theorem roomK_le (c : Nat) (ys : List (List Ent)) (i : Nat) : ∀ k, roomK c ys i k ≤ k * c
  | 0 => by simp [roomK]
  | k + 1 => by
    have := roomK_le c ys i k
    unfold roomK
    rw [Nat.succ_mul]
    split <;> omega
/-- The first bay with room, other than bay i; else i. -/
def firstK (c : Nat) (ys : List (List Ent)) (i : Nat) (j : Nat) : Bool := decide (j ≠ i) && decide (lenAt ys j < c)
def firstS (c : Nat) (ys : List (List Ent)) (i : Nat) : Nat := ((List.range ys.length).find? (firstK c ys i)).getD i

theorem size_any (q j n cap : Nat) (A : Option Addr) (w : World) (h : w.cell? ⟨q, j, none⟩ = some (.slice A n cap)) : Calls Try.prog 25 #[.pointer (some ⟨q, j, none⟩)] w fun e w' => e = .returned (.int .i64 n) ∧ w = w' := by
  go_enter Try.func25, Try.ntmps25
  go_wp2
  go_ret
  exact ⟨rfl, rfl⟩
theorem put_nil (i : Int) (x : Bs) (w : World) : Calls Try.prog 12 #[.pointer none, .int .i64 i, .string x] w fun e w' => e = .returned (.int .i64 1) ∧ w = w' := by
  go_enter Try.func12, Try.ntmps12
  go_wp2
  go_ret
  exact ⟨rfl, rfl⟩
theorem oldest_nil (w : World) : Calls Try.prog 13 #[.pointer none] w fun e w' => e = .returned (.tuple #[.string nul, .bool false]) ∧ w = w' := by
  go_enter Try.func13, Try.ntmps13
  go_wp2
  refine bodyPost_ret (results_tmp2 rfl _ _ _) rfl ?_
  exact ⟨rfl, rfl⟩
theorem take_nil (x : Bs) (w : World) : Calls Try.prog 14 #[.pointer none, .string x] w fun e w' => e = .returned (.tuple #[.int .i64 0, .int .i64 1]) ∧ w = w' := by
  go_enter Try.func14, Try.ntmps14
  go_wp2
  refine bodyPost_ret (results_tmp2 rfl _ _ _) rfl ?_
  exact ⟨rfl, rfl⟩
theorem len_nil (w : World) : Calls Try.prog 15 #[.pointer none] w fun e w' => e = .returned (.int .i64 0) ∧ w = w' := by
  go_enter Try.func15, Try.ntmps15
  go_wp2
  go_ret
  exact ⟨rfl, rfl⟩
theorem find_nil (x : Bs) (w : World) : Calls Try.prog 16 #[.pointer none, .string x] w fun e w' => e = .returned (.tuple #[.int .i64 0, .int .i64 0, .bool false]) ∧ w = w' := by
  go_enter Try.func16, Try.ntmps16
  go_wp2
  refine bodyPost_ret (results_tmp3 rfl _ _ _) rfl ?_
  exact ⟨rfl, rfl⟩
theorem bay_nil (i : Int) (w : World) : Calls Try.prog 17 #[.pointer none, .int .i64 i] w fun e w' => e = .returned (.slice none 0 0) ∧ w = w' := by
  go_enter Try.func17, Try.ntmps17
  go_wp2
  go_ret
  exact ⟨rfl, rfl⟩

end Go.Proofs.Ytahommgchnbnjaa
