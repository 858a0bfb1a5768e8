/-
  ClaimParts returns true for every account, every list of calls, every period and all volumes.
-/
import Derived.Test.YtpapgldjmglaiaaWalkf
namespace Go.Proofs.Ytpapgldjmglaiaa.claimParts
open Go.ChangeShapes Go.WideShapes Go.ChangeAt Go.RowKit

theorem ac_ext {a b : Ac} (h1 : a.F = b.F) (h2 : a.P = b.P) (h3 : a.T = b.T) (h4 : a.cr = b.cr) (h5 : a.cl = b.cl) (h6 : ∀ q, a.f q = b.f q) : a = b := by
  obtain ⟨F, P, T, cr, cl, f⟩ := a
  obtain ⟨F', P', T', cr', cl', f'⟩ := b
  simp only at h1 h2 h3 h4 h5 h6
  subst h1 h2 h3 h4 h5
  rw [show f = f' from funext h6]

theorem mul1000 (v F : Int) : 1000 * v * F / 1000 = v * F := by
  rw [Int.mul_assoc]
  exact Int.mul_ediv_cancel_left _ (by omega)

/-- Two credits of multiples of 1000 are one. -/
theorem credits {a : Ac} {p v w : Int} (v0 : 0 ≤ v) (w0 : 0 ≤ w) (v1 : v ≤ 274877906944) (w1 : w ≤ 274877906944) (h : (a.credit p (1000 * v)).2 = 0) :
    0 ≤ p ∧ p ≤ 1000000 ∧ (a.credit p (1000 * v)).1.T = p ∧ ((a.credit p (1000 * v)).1.credit p (1000 * w)).2 = 0 ∧ (a.credit p (1000 * (v + w))).2 = 0 ∧ ((a.credit p (1000 * v)).1.credit p (1000 * w)).1 = (a.credit p (1000 * (v + w))).1 := by
  have hc : a.check p (1000 * v) = 0 := by
    unfold Ac.credit at h
    by_cases h0 : a.check p (1000 * v) = 0
    · exact h0
    · rw [if_pos h0] at h; exact absurd h h0
  obtain ⟨q1, q2, q3, _, _⟩ := check_zero (by simpa using hc)
  have e1 : a.credit p (1000 * v) = ({ a with T := p, f := addAt a.f p (1000 * v * a.F / 1000), cr := a.cr + 1000 * v * a.F / 1000 }, 0) := by
    unfold Ac.credit; rw [if_neg (by simpa using hc)]
  have hc2 : ∀ (a' : Ac) (x : Int), a'.T ≤ p → 0 ≤ x → x ≤ 1125899906842624 → a'.check p x = 0 := by
    intro a' x h1 h2 h3
    unfold Ac.check Ac.isP
    rw [if_neg (by simp; omega), if_neg (by omega)]
  rw [e1]
  simp only
  have e2 : (Ac.credit { a with T := p, f := addAt a.f p (1000 * v * a.F / 1000), cr := a.cr + 1000 * v * a.F / 1000 } p (1000 * w)) = ({ a with T := p, f := addAt (addAt a.f p (1000 * v * a.F / 1000)) p (1000 * w * a.F / 1000), cr := a.cr + 1000 * v * a.F / 1000 + 1000 * w * a.F / 1000 }, 0) := by
    unfold Ac.credit; rw [if_neg (by rw [hc2 _ _ (Int.le_refl _) (by omega) (by omega)]; simp)]
  have e3 : a.credit p (1000 * (v + w)) = ({ a with T := p, f := addAt a.f p (1000 * (v + w) * a.F / 1000), cr := a.cr + 1000 * (v + w) * a.F / 1000 }, 0) := by
    unfold Ac.credit; rw [if_neg (by rw [hc2 _ _ q3 (by omega) (by omega)]; simp)]
  rw [e2, e3]
  refine ⟨q1, q2, by simp, by simp, by simp, ?_⟩
  simp only [mul1000]
  refine ac_ext rfl rfl rfl ?_ rfl ?_
  · show a.cr + v * a.F + w * a.F = a.cr + (v + w) * a.F
    rw [Int.add_mul]; omega
  · intro q
    show addAt (addAt a.f p (v * a.F)) p (w * a.F) q = addAt a.f p ((v + w) * a.F) q
    unfold addAt
    rw [Int.add_mul]
    split <;> omega

theorem drain_drain {f : Int → Int} (hn : ∀ p, 0 ≤ f p) (lo : Int) (N : Nat) {v w : Int} (v0 : 0 ≤ v) (w0 : 0 ≤ w) (q : Int) : drain (drain f lo N v) lo N w q = drain f lo N (v + w) q := by
  by_cases hq : lo ≤ q ∧ q < lo + N
  · have r1 := drain_rs (f := f) (lo := lo) (N := N) (V := v) (q - lo).toNat (by omega)
    have r2 := drain_rs (f := f) (lo := lo) (N := N) (V := v) ((q - lo).toNat + 1) (by omega)
    have e : ∀ (g : Int → Int) (V : Int), drain g lo N V q = g q - (min V (rs g lo ((q - lo).toNat + 1)) - min V (rs g lo (q - lo).toNat)) := fun g V => by unfold drain; rw [if_pos hq]
    rw [e (drain f lo N v) w, r1, r2, e f v, e f (v + w)]
    have n1 := rs_nonneg hn lo (q - lo).toNat
    have n2 := rs_nonneg hn lo ((q - lo).toNat + 1)
    omega
  · unfold drain
    rw [if_neg hq, if_neg hq, if_neg hq]

/-- Two claims in a period are one. -/
theorem claims {a : Ac} {K : Nat} {p v w : Int} (ok : a.Ok K) (hT : a.T = p) (p0 : 0 ≤ p) (p9 : p ≤ 1000000) (v0 : 0 ≤ v) (w0 : 0 ≤ w) (v1 : v ≤ 274877906944) (w1 : w ≤ 274877906944) :
    ((a.claim p v).2 = 0 ∧ ((a.claim p v).1.claim p w).2 = 0 ∧ (a.claim p (v + w)).2 = 0 ∧ ((a.claim p v).1.claim p w).1 = (a.claim p (v + w)).1) ∨
    (((a.claim p v).2 ≠ 0 ∨ ((a.claim p v).1.claim p w).2 ≠ 0) ∧ (a.claim p (v + w)).2 = 23) := by
  have hP : Ac.isP p = true := by simp [Ac.isP]; omega
  have hc : ∀ (a' : Ac) (x : Int), a'.T = p → 0 ≤ x → x ≤ 1125899906842624 → a'.check p x = 0 := by
    intro a' x h1 h2 h3
    unfold Ac.check
    rw [if_neg (by simp [hP]; omega), if_neg (by omega)]
  have hl : ∀ a' : Ac, a'.left p = rs a'.f (p - a'.P + 1) a'.P.toNat := fun a' => by unfold Ac.left; rw [if_pos hP]
  have gt : ∀ (a' : Ac) (x : Int), a'.T = p → 0 ≤ x → x ≤ 1125899906842624 → x > a'.left p → a'.claim p x = (a', 23) := by
    intro a' x h1 h2 h3 h4
    unfold Ac.claim
    rw [if_neg (by rw [hc a' x h1 h2 h3]; simp), if_pos h4]
  have le : ∀ (a' : Ac) (x : Int), a'.T = p → 0 ≤ x → x ≤ 1125899906842624 → ¬ x > a'.left p → a'.claim p x = ({ a' with T := p, f := drain a'.f (p - a'.P + 1) a'.P.toNat x, cl := a'.cl + x }, 0) := by
    intro a' x h1 h2 h3 h4
    unfold Ac.claim
    rw [if_neg (by rw [hc a' x h1 h2 h3]; simp), if_neg h4]
  by_cases h1 : v > a.left p
  · rw [gt a v hT v0 (by omega) h1]
    refine .inr ⟨.inl (by simp), ?_⟩
    rw [gt a (v + w) hT (by omega) (by omega) (by omega)]
  · rw [le a v hT v0 (by omega) h1]
    simp only
    have hl2 : Ac.left { a with T := p, f := drain a.f (p - a.P + 1) a.P.toNat v, cl := a.cl + v } p = a.left p - v := by
      rw [hl, hl a]
      show rs (drain a.f (p - a.P + 1) a.P.toNat v) (p - a.P + 1) a.P.toNat = _
      rw [hl a] at h1
      rw [drain_rs _ (Nat.le_refl _)]
      omega
    by_cases h2 : w > a.left p - v
    · rw [gt _ w rfl w0 (by omega) (by rw [hl2]; exact h2)]
      refine .inr ⟨.inr (by simp), ?_⟩
      rw [gt a (v + w) hT (by omega) (by omega) (by omega)]
    · rw [le _ w rfl w0 (by omega) (by rw [hl2]; exact h2), le a (v + w) hT (by omega) (by omega) (by omega)]
      refine .inl ⟨by simp, by simp, by simp, ac_ext rfl rfl rfl rfl ?_ ?_⟩
      · show a.cl + v + w = a.cl + (v + w); omega
      · exact fun q => drain_drain ok.nn _ _ v0 w0 q

/-- What holds at the head of each round of the first loop. -/
def Rel (w : World) (g r g' r' gb len : Nat) (x y z : Int) (i : Value) (wr : World) : Prop :=
  ∃ (k : Nat) (a : Ac), k ≤ len ∧ i = .int .i64 k ∧ a.Ok k ∧ IsA wr g r a ∧ IsA wr g' r' a ∧ Blk wr gb 22 #[.int .i64 x, .int .i64 y, .int .i64 z] ∧ Below w.heap.size w wr
/-- What holds at the head of each round of the second loop. -/
def Rel2 (w : World) (g r g' r' : Nat) (a : Ac) (i : Value) (wr : World) : Prop :=
  ∃ k : Nat, k ≤ 30 ∧ i = .int .i64 k ∧ IsA wr g r a ∧ IsA wr g' r' a ∧ Below w.heap.size w wr

set_option maxRecDepth 100000 in
set_option maxHeartbeats 4000000 in
theorem walk_bad (F P : Int) (A : Option Addr) (len cap : Nat) (xs : List (Bool × Int × Int)) (x y z : Int) (w : World) (hx : IsSteps w A len xs) (h : F < 0 ∨ F > 1000 ∨ P < 1 ∨ P > 24) :
    Calls Try.prog 6 #[.agg #[.int .i64 F, .int .i64 P], .slice A len cap, .agg #[.int .i64 x, .int .i64 y, .int .i64 z]] w fun e w' => e = .returned (.bool true) ∧ Below w.heap.size w w' := by
  have hml := hx.2.1
  unfold maxLen at hml
  clear hx
  have n0 : ((w.alloc (.cells #[.int .i64 F, .int .i64 P] 40)).alloc (.cells #[.int .i64 x, .int .i64 y, .int .i64 z] 22)).heap.size = w.heap.size + 1 + 1 := by simp
  have N0 := Lib.hid n0
  clear n0
  go_enter Try.func6, Try.ntmps6
  go_wp2_with fail
  refine (new_bad F P _ h).mono ?_
  rintro e w1 ⟨rfl, rfl⟩
  go_wp2_with fail
  refine (new_bad F P _ h).mono ?_
  rintro e w1 ⟨rfl, rfl⟩
  go_wp2_with fail
  refine (awake_any _).mono ?_
  rintro e w2 ⟨rfl, hb2⟩
  go_wp2
  go_ret
  exact ⟨rfl, (((Below.refl _ _).alloc (Nat.le_refl _) _).alloc (by simp) _).trans (hb2.mono (by rw [N0.out]; omega))⟩

set_option maxRecDepth 100000 in
set_option maxHeartbeats 4000000 in
theorem walk_long (F P : Int) (A : Option Addr) (len cap : Nat) (xs : List (Bool × Int × Int)) (x y z : Int) (w : World) (hx : IsSteps w A len xs) (f1 : 0 ≤ F) (f2 : F ≤ 1000) (p1 : 1 ≤ P) (p2 : P ≤ 24) (hlen : len > 50) :
    Calls Try.prog 6 #[.agg #[.int .i64 F, .int .i64 P], .slice A len cap, .agg #[.int .i64 x, .int .i64 y, .int .i64 z]] w fun e w' => e = .returned (.bool true) ∧ Below w.heap.size w w' := by
  have hml := hx.2.1
  unfold maxLen at hml
  clear hx
  go_enter Try.func6, Try.ntmps6
  go_wp2_with fail
  refine (new_ok F P _ f1 f2 p1 p2).mono ?_
  rintro e w1 ⟨rfl, hA, hb⟩
  rw [World.size_alloc, World.size_alloc] at hA hb
  have hN1 : Blk w1 w.heap.size 40 #[.int .i64 F, .int .i64 P] := ((Blk.new w 40 #[.int .i64 F, .int .i64 P]).alloc _).below hb (by omega)
  have hX1 : Blk w1 (w.heap.size + 1) 22 #[.int .i64 x, .int .i64 y, .int .i64 z] := by
    have := Blk.new (w.alloc (.cells #[.int .i64 F, .int .i64 P] 40)) 22 #[.int .i64 x, .int .i64 y, .int .i64 z]
    rw [World.size_alloc] at this
    exact this.below hb (by omega)
  have hl1 := hA.blk.lt
  have hb1 : Below w.heap.size w w1 := (((Below.refl _ _).alloc (Nat.le_refl _) _).alloc (by simp) _).trans (hb.mono (by omega))
  have n0 := hN1.cell 0
  have n1 := hN1.cell 1
  simp at n0 n1
  clear hb
  go_wp2_with fail
  refine (new_ok F P w1 f1 f2 p1 p2).mono ?_
  rintro e w2 ⟨rfl, hA2, hb2⟩
  have hX2 := hX1.below hb2 hX1.lt
  have hA12 := hA.below hb2 hl1 (by omega)
  have hb12 := hb1.trans (hb2.mono (by omega))
  have hl2 := hA2.blk.lt
  have x1 := hX2.cell 1
  have x2 := hX2.cell 2
  simp at x1 x2
  clear hN1 hX1 hb1 hb2 hA n0 n1
  go_wp2_with fail
  refine (awake_any _).mono ?_
  rintro e w3 ⟨rfl, hb3⟩
  go_wp2
  go_ret
  exact ⟨rfl, hb12.trans (hb3.mono hb12.size)⟩

set_option maxRecDepth 100000 in
set_option maxHeartbeats 4000000 in
theorem walk_y0 (F P : Int) (A : Option Addr) (len cap : Nat) (xs : List (Bool × Int × Int)) (x y z : Int) (w : World) (hx : IsSteps w A len xs) (f1 : 0 ≤ F) (f2 : F ≤ 1000) (p1 : 1 ≤ P) (p2 : P ≤ 24) (hlen : len ≤ 50) (y0 : y < 0) :
    Calls Try.prog 6 #[.agg #[.int .i64 F, .int .i64 P], .slice A len cap, .agg #[.int .i64 x, .int .i64 y, .int .i64 z]] w fun e w' => e = .returned (.bool true) ∧ Below w.heap.size w w' := by
  have hml := hx.2.1
  unfold maxLen at hml
  clear hx
  go_enter Try.func6, Try.ntmps6
  go_wp2_with fail
  refine (new_ok F P _ f1 f2 p1 p2).mono ?_
  rintro e w1 ⟨rfl, hA, hb⟩
  rw [World.size_alloc, World.size_alloc] at hA hb
  have hN1 : Blk w1 w.heap.size 40 #[.int .i64 F, .int .i64 P] := ((Blk.new w 40 #[.int .i64 F, .int .i64 P]).alloc _).below hb (by omega)
  have hX1 : Blk w1 (w.heap.size + 1) 22 #[.int .i64 x, .int .i64 y, .int .i64 z] := by
    have := Blk.new (w.alloc (.cells #[.int .i64 F, .int .i64 P] 40)) 22 #[.int .i64 x, .int .i64 y, .int .i64 z]
    rw [World.size_alloc] at this
    exact this.below hb (by omega)
  have hl1 := hA.blk.lt
  have hb1 : Below w.heap.size w w1 := (((Below.refl _ _).alloc (Nat.le_refl _) _).alloc (by simp) _).trans (hb.mono (by omega))
  have n0 := hN1.cell 0
  have n1 := hN1.cell 1
  simp at n0 n1
  clear hb
  go_wp2_with fail
  refine (new_ok F P w1 f1 f2 p1 p2).mono ?_
  rintro e w2 ⟨rfl, hA2, hb2⟩
  have hX2 := hX1.below hb2 hX1.lt
  have hA12 := hA.below hb2 hl1 (by omega)
  have hb12 := hb1.trans (hb2.mono (by omega))
  have hl2 := hA2.blk.lt
  have x1 := hX2.cell 1
  have x2 := hX2.cell 2
  simp at x1 x2
  clear hN1 hX1 hb1 hb2 hA n0 n1
  go_wp2_with fail
  refine (awake_any _).mono ?_
  rintro e w3 ⟨rfl, hb3⟩
  go_wp2
  go_ret
  exact ⟨rfl, hb12.trans (hb3.mono hb12.size)⟩

set_option maxRecDepth 100000 in
set_option maxHeartbeats 4000000 in
theorem walk_z0 (F P : Int) (A : Option Addr) (len cap : Nat) (xs : List (Bool × Int × Int)) (x y z : Int) (w : World) (hx : IsSteps w A len xs) (f1 : 0 ≤ F) (f2 : F ≤ 1000) (p1 : 1 ≤ P) (p2 : P ≤ 24) (hlen : len ≤ 50) (y0 : 0 ≤ y) (z0 : z < 0) :
    Calls Try.prog 6 #[.agg #[.int .i64 F, .int .i64 P], .slice A len cap, .agg #[.int .i64 x, .int .i64 y, .int .i64 z]] w fun e w' => e = .returned (.bool true) ∧ Below w.heap.size w w' := by
  have hml := hx.2.1
  unfold maxLen at hml
  clear hx
  go_enter Try.func6, Try.ntmps6
  go_wp2_with fail
  refine (new_ok F P _ f1 f2 p1 p2).mono ?_
  rintro e w1 ⟨rfl, hA, hb⟩
  rw [World.size_alloc, World.size_alloc] at hA hb
  have hN1 : Blk w1 w.heap.size 40 #[.int .i64 F, .int .i64 P] := ((Blk.new w 40 #[.int .i64 F, .int .i64 P]).alloc _).below hb (by omega)
  have hX1 : Blk w1 (w.heap.size + 1) 22 #[.int .i64 x, .int .i64 y, .int .i64 z] := by
    have := Blk.new (w.alloc (.cells #[.int .i64 F, .int .i64 P] 40)) 22 #[.int .i64 x, .int .i64 y, .int .i64 z]
    rw [World.size_alloc] at this
    exact this.below hb (by omega)
  have hl1 := hA.blk.lt
  have hb1 : Below w.heap.size w w1 := (((Below.refl _ _).alloc (Nat.le_refl _) _).alloc (by simp) _).trans (hb.mono (by omega))
  have n0 := hN1.cell 0
  have n1 := hN1.cell 1
  simp at n0 n1
  clear hb
  go_wp2_with fail
  refine (new_ok F P w1 f1 f2 p1 p2).mono ?_
  rintro e w2 ⟨rfl, hA2, hb2⟩
  have hX2 := hX1.below hb2 hX1.lt
  have hA12 := hA.below hb2 hl1 (by omega)
  have hb12 := hb1.trans (hb2.mono (by omega))
  have hl2 := hA2.blk.lt
  have x1 := hX2.cell 1
  have x2 := hX2.cell 2
  simp at x1 x2
  clear hN1 hX1 hb1 hb2 hA n0 n1
  go_wp2_with fail
  refine (awake_any _).mono ?_
  rintro e w3 ⟨rfl, hb3⟩
  go_wp2
  go_ret
  exact ⟨rfl, hb12.trans (hb3.mono hb12.size)⟩

set_option maxRecDepth 100000 in
set_option maxHeartbeats 4000000 in
theorem walk_y1 (F P : Int) (A : Option Addr) (len cap : Nat) (xs : List (Bool × Int × Int)) (x y z : Int) (w : World) (hx : IsSteps w A len xs) (f1 : 0 ≤ F) (f2 : F ≤ 1000) (p1 : 1 ≤ P) (p2 : P ≤ 24) (hlen : len ≤ 50) (y0 : 0 ≤ y) (z0 : 0 ≤ z) (y1 : y > 274877906944) :
    Calls Try.prog 6 #[.agg #[.int .i64 F, .int .i64 P], .slice A len cap, .agg #[.int .i64 x, .int .i64 y, .int .i64 z]] w fun e w' => e = .returned (.bool true) ∧ Below w.heap.size w w' := by
  have hml := hx.2.1
  unfold maxLen at hml
  clear hx
  go_enter Try.func6, Try.ntmps6
  go_wp2_with fail
  refine (new_ok F P _ f1 f2 p1 p2).mono ?_
  rintro e w1 ⟨rfl, hA, hb⟩
  rw [World.size_alloc, World.size_alloc] at hA hb
  have hN1 : Blk w1 w.heap.size 40 #[.int .i64 F, .int .i64 P] := ((Blk.new w 40 #[.int .i64 F, .int .i64 P]).alloc _).below hb (by omega)
  have hX1 : Blk w1 (w.heap.size + 1) 22 #[.int .i64 x, .int .i64 y, .int .i64 z] := by
    have := Blk.new (w.alloc (.cells #[.int .i64 F, .int .i64 P] 40)) 22 #[.int .i64 x, .int .i64 y, .int .i64 z]
    rw [World.size_alloc] at this
    exact this.below hb (by omega)
  have hl1 := hA.blk.lt
  have hb1 : Below w.heap.size w w1 := (((Below.refl _ _).alloc (Nat.le_refl _) _).alloc (by simp) _).trans (hb.mono (by omega))
  have n0 := hN1.cell 0
  have n1 := hN1.cell 1
  simp at n0 n1
  clear hb
  go_wp2_with fail
  refine (new_ok F P w1 f1 f2 p1 p2).mono ?_
  rintro e w2 ⟨rfl, hA2, hb2⟩
  have hX2 := hX1.below hb2 hX1.lt
  have hA12 := hA.below hb2 hl1 (by omega)
  have hb12 := hb1.trans (hb2.mono (by omega))
  have hl2 := hA2.blk.lt
  have x1 := hX2.cell 1
  have x2 := hX2.cell 2
  simp at x1 x2
  clear hN1 hX1 hb1 hb2 hA n0 n1
  go_wp2_with fail
  refine (awake_any _).mono ?_
  rintro e w3 ⟨rfl, hb3⟩
  go_wp2
  go_ret
  exact ⟨rfl, hb12.trans (hb3.mono hb12.size)⟩

set_option maxRecDepth 100000 in
set_option maxHeartbeats 4000000 in
theorem walk_z1 (F P : Int) (A : Option Addr) (len cap : Nat) (xs : List (Bool × Int × Int)) (x y z : Int) (w : World) (hx : IsSteps w A len xs) (f1 : 0 ≤ F) (f2 : F ≤ 1000) (p1 : 1 ≤ P) (p2 : P ≤ 24) (hlen : len ≤ 50) (y0 : 0 ≤ y) (z0 : 0 ≤ z) (y1 : y ≤ 274877906944) (z1 : z > 274877906944) :
    Calls Try.prog 6 #[.agg #[.int .i64 F, .int .i64 P], .slice A len cap, .agg #[.int .i64 x, .int .i64 y, .int .i64 z]] w fun e w' => e = .returned (.bool true) ∧ Below w.heap.size w w' := by
  have hml := hx.2.1
  unfold maxLen at hml
  clear hx
  go_enter Try.func6, Try.ntmps6
  go_wp2_with fail
  refine (new_ok F P _ f1 f2 p1 p2).mono ?_
  rintro e w1 ⟨rfl, hA, hb⟩
  rw [World.size_alloc, World.size_alloc] at hA hb
  have hN1 : Blk w1 w.heap.size 40 #[.int .i64 F, .int .i64 P] := ((Blk.new w 40 #[.int .i64 F, .int .i64 P]).alloc _).below hb (by omega)
  have hX1 : Blk w1 (w.heap.size + 1) 22 #[.int .i64 x, .int .i64 y, .int .i64 z] := by
    have := Blk.new (w.alloc (.cells #[.int .i64 F, .int .i64 P] 40)) 22 #[.int .i64 x, .int .i64 y, .int .i64 z]
    rw [World.size_alloc] at this
    exact this.below hb (by omega)
  have hl1 := hA.blk.lt
  have hb1 : Below w.heap.size w w1 := (((Below.refl _ _).alloc (Nat.le_refl _) _).alloc (by simp) _).trans (hb.mono (by omega))
  have n0 := hN1.cell 0
  have n1 := hN1.cell 1
  simp at n0 n1
  clear hb
  go_wp2_with fail
  refine (new_ok F P w1 f1 f2 p1 p2).mono ?_
  rintro e w2 ⟨rfl, hA2, hb2⟩
  have hX2 := hX1.below hb2 hX1.lt
  have hA12 := hA.below hb2 hl1 (by omega)
  have hb12 := hb1.trans (hb2.mono (by omega))
  have hl2 := hA2.blk.lt
  have x1 := hX2.cell 1
  have x2 := hX2.cell 2
  simp at x1 x2
  clear hN1 hX1 hb1 hb2 hA n0 n1
  go_wp2_with fail
  refine (awake_any _).mono ?_
  rintro e w3 ⟨rfl, hb3⟩
  go_wp2
  go_ret
  exact ⟨rfl, hb12.trans (hb3.mono hb12.size)⟩

set_option maxRecDepth 100000 in
set_option maxHeartbeats 4000000 in
theorem walk_main (F P : Int) (A : Option Addr) (len cap : Nat) (xs : List (Bool × Int × Int)) (x y z : Int) (w : World) (hx : IsSteps w A len xs) (f1 : 0 ≤ F) (f2 : F ≤ 1000) (p1 : 1 ≤ P) (p2 : P ≤ 24) (hlen : len ≤ 50) (y0 : 0 ≤ y) (z0 : 0 ≤ z) (y1 : y ≤ 274877906944) (z1 : z ≤ 274877906944) :
    Calls Try.prog 6 #[.agg #[.int .i64 F, .int .i64 P], .slice A len cap, .agg #[.int .i64 x, .int .i64 y, .int .i64 z]] w fun e w' => e = .returned (.bool true) ∧ Below w.heap.size w w' := by
  have hml := hx.2.1
  unfold maxLen at hml
  have HX := Lib.hid hx
  clear hx
  go_enter Try.func6, Try.ntmps6
  go_wp2_with fail
  refine (new_ok F P _ f1 f2 p1 p2).mono ?_
  rintro e w1 ⟨rfl, hA, hb⟩
  rw [World.size_alloc, World.size_alloc] at hA hb
  have hN1 : Blk w1 w.heap.size 40 #[.int .i64 F, .int .i64 P] := ((Blk.new w 40 #[.int .i64 F, .int .i64 P]).alloc _).below hb (by omega)
  have hX1 : Blk w1 (w.heap.size + 1) 22 #[.int .i64 x, .int .i64 y, .int .i64 z] := by
    have := Blk.new (w.alloc (.cells #[.int .i64 F, .int .i64 P] 40)) 22 #[.int .i64 x, .int .i64 y, .int .i64 z]
    rw [World.size_alloc] at this
    exact this.below hb (by omega)
  have hl1 := hA.blk.lt
  have hb1 : Below w.heap.size w w1 := (((Below.refl _ _).alloc (Nat.le_refl _) _).alloc (by simp) _).trans (hb.mono (by omega))
  have n0 := hN1.cell 0
  have n1 := hN1.cell 1
  simp at n0 n1
  clear hb
  go_wp2_with fail
  refine (new_ok F P w1 f1 f2 p1 p2).mono ?_
  rintro e w2 ⟨rfl, hA2, hb2⟩
  have hX2 := hX1.below hb2 hX1.lt
  have hA12 := hA.below hb2 hl1 (by omega)
  have hb12 := hb1.trans (hb2.mono (by omega))
  have hl2 := hA2.blk.lt
  have x1 := hX2.cell 1
  have x2 := hX2.cell 2
  simp at x1 x2
  clear hN1 hX1 hb1 hb2 hA n0 n1
  have hR : Rel w (w.heap.size + 1 + 1 + 1) (w.heap.size + 1 + 1) (w1.heap.size + 1) w1.heap.size (w.heap.size + 1) len x y z (.int .i64 0) w2 :=
    ⟨0, _, by omega, rfl, ok_new f1 f2 p1 p2, hA12, hA2, hX2, hb12⟩
  clear hA12 hA2 hX2 hb12
  go_wp2
  clear x1 x2
  go_loopw [11] (fun i wr => Rel w (w.heap.size + 1 + 1 + 1) (w.heap.size + 1 + 1) (w1.heap.size + 1) w1.heap.size (w.heap.size + 1) len x y z i wr) (fun i _ => len - (intOf i).toNat)
  case atStart => exact hR
  case round =>
    obtain ⟨k, a, hk, rfl, ok, hA, hB, hQ, hb⟩ := hrel
    clear hR
    have hwr := hb.size
    have ha1 := hA.blk.lt
    have ha2 := hB.blk.lt
    by_cases hlt : k < len
    · obtain ⟨x', hxk⟩ : ∃ x, xs[k]? = some x := ⟨xs[k]'(by rw [HX.out.1]; exact hlt), List.getElem?_eq_getElem _⟩
      obtain ⟨b, o, rfl, hbl, hc0, hc1, hc2, hr1, hr2⟩ := HX.out.2.2 k x' hxk
      obtain ⟨c, per, vol⟩ := x'
      have e0 := hb.cell (p := ⟨b, o + k * 3, none⟩) hbl
      have e1 := hb.cell (p := ⟨b, o + k * 3 + 1, none⟩) hbl
      have e2 := hb.cell (p := ⟨b, o + k * 3 + 2, none⟩) hbl
      rw [hc0] at e0
      rw [hc1] at e1
      rw [hc2] at e2
      simp only at e0 e1 e2
      clear hc0 hc1 hc2 hxk
      go_wp2_with fail
      refine (do_any _ _ k a c per vol wr hA ok).mono ?_
      rintro e w3 ⟨rfl, hA3, hf3⟩
      have hB3 := hB.fr hf3 (by omega) (by omega)
      have hb3 := hb.trans (hf3.below hb.size (fun i _ h => by omega))
      have hQ3 := hQ.fr hf3 (by omega)
      have E3 := hf3.block b (by omega) (by omega)
      have g0 : w3.cell? ⟨b, o + k * 3, none⟩ = some (.bool c) := by rw [← e0]; unfold World.cell?; rw [E3]
      have g1 : w3.cell? ⟨b, o + k * 3 + 1, none⟩ = some (.int .i64 per) := by rw [← e1]; unfold World.cell?; rw [E3]
      have g2 : w3.cell? ⟨b, o + k * 3 + 2, none⟩ = some (.int .i64 vol) := by rw [← e2]; unfold World.cell?; rw [E3]
      clear e0 e1 e2 E3 hf3 hA hB hQ hb
      go_wp2_with fail
      refine (do_any _ _ k a c per vol w3 hB3 ok).mono ?_
      rintro e w4 ⟨rfl, hB4, hf4⟩
      have HE : Hid (Rel w (w.heap.size + 1 + 1 + 1) (w.heap.size + 1 + 1) (w1.heap.size + 1) w1.heap.size (w.heap.size + 1) len x y z (.int .i64 ((k : Int) + 1)) w4) :=
        ⟨k + 1, (a.step c per vol).1, by omega, by simp, Ac.step_ok ok (by omega) c per vol, hA3.fr hf4 (by omega) (by omega), hB4, hQ3.fr hf4 (by omega), hb3.trans (hf4.below hb3.size (fun i _ h => by omega))⟩
      clear g0 g1 g2 hf4 hA3 hB4 hB3 hQ3 hb3
      go_wp2
      go_roundw
      case rel => exact HE.out
      case measure => simp [intOf]; omega
    · have x0 := hQ.cell 0
      have x1 := hQ.cell 1
      have x2 := hQ.cell 2
      simp at x0 x1 x2
      go_wp2
      go_quiet (fail)
      rename_i nq
      have hAd : IsA (wr.drewN nq) (w.heap.size + 1 + 1 + 1) (w.heap.size + 1 + 1) a := hA
      have hBd : IsA (wr.drewN nq) (w1.heap.size + 1) w1.heap.size a := hB
      have hbd : Below w.heap.size w (wr.drewN nq) := below_drewN hb nq
      have hq1 : wr.heap.size = (wr.drewN nq).heap.size := rfl
      generalize wr.drewN nq = wd at hAd hBd hbd hq1 ⊢
      rw [hq1] at hwr ha1 ha2
      clear hq1 hA hB hQ hb x0 x1 x2
      go_wp2_with fail
      refine (credit_any _ _ k a x (1000 * y) _ hAd ok).mono ?_
      rintro e w3 ⟨rfl, hA3, hf3⟩
      have hB3 := hBd.fr hf3 (by omega) (by omega)
      have hb3 := hbd.trans (hf3.below hbd.size (fun i _ h => by omega))
      have hz3 := hf3.size
      clear hAd hBd hbd hf3
      by_cases hcr : (a.credit x (1000 * y)).2 = 0
      · obtain ⟨q0, q9, qT, c2, c3, hae⟩ := credits y0 z0 y1 z1 hcr
        have ok3 := Ac.credit_ok ok (by omega) x (1000 * y)
        rw [hcr]
        have HC2 := Lib.hid c2
        have HC3 := Lib.hid c3
        have HAE := Lib.hid hae
        have HT := Lib.hid qT
        have s1 : y + z ≤ 549755813888 := by omega
        clear hcr c2 c3 hae qT
        go_wp2_with fail
        refine (credit_any _ _ (k + 1) _ x (1000 * z) _ hA3 ok3).mono ?_
        rintro e w4 ⟨rfl, hA4, hf4⟩
        have hB4 := hB3.fr hf4 (by omega) (by omega)
        have hb4 := hb3.trans (hf4.below hb3.size (fun i _ h => by omega))
        have hz4 := hf4.size
        clear hA3 hB3 hb3 hf4
        rw [HC2.out]
        go_wp2_with fail
        refine (credit_any _ _ k a x (1000 * (y + z)) _ hB4 ok).mono ?_
        rintro e w5 ⟨rfl, hB5, hf5⟩
        have hA5 := hA4.fr hf5 (by omega) (by omega)
        have hb5 := hb4.trans (hf5.below hb4.size (fun i _ h => by omega))
        have hz5 := hf5.size
        clear hA4 hB4 hb4 hf5
        rw [HC3.out]
        have ok5 := Ac.credit_ok ok3 (by omega) x (1000 * z)
        have hT5 : ((a.credit x (1000 * y)).1.credit x (1000 * z)).1.T = x := by
          rcases Ac.step_cases (a.credit x (1000 * y)).1 false x (1000 * z) with ⟨h1, _⟩ | ⟨_, h2, _⟩
          · exact absurd HC2.out h1
          · exact h2
        rw [← HAE.out] at hB5
        have hcl := claims ok5 hT5 q0 q9 y0 z0 y1 z1
        generalize ((a.credit x (1000 * y)).1.credit x (1000 * z)).1 = a5 at hA5 hB5 ok5 hT5 hcl
        go_wp2_with fail
        refine (left_to hA5 ok5 rfl).mono ?_
        rintro e w6 ⟨rfl, hA6, hs6⟩
        have hB6 := hB5.same hs6
        have hb6 := hb5.trans (Fr.below hs6 hb5.size (fun i _ x => x.elim))
        have hz6 := hs6.size
        clear hA5 hB5 hb5 hs6
        go_wp2_with fail
        refine (left_to hB6 ok5 rfl).mono ?_
        rintro e w7 ⟨rfl, hB7, hs7⟩
        have hA7 := hA6.same hs7
        have hb7 := hb6.trans (Fr.below hs7 hb6.size (fun i _ x => x.elim))
        have hz7 := hs7.size
        clear hA6 hB6 hb6 hs7
        have ok7 := Ac.claim_ok ok5 (by omega) x y
        go_wp2_with fail
        refine (claim_any _ _ (k + 1 + 1) a5 x y _ hA7 ok5).mono ?_
        rintro e w8 ⟨rfl, hA8, hf8⟩
        have hB8 := hB7.fr hf8 (by omega) (by omega)
        have hb8 := hb7.trans (hf8.below hb7.size (fun i _ h => by omega))
        have hz8 := hf8.size
        clear hA7 hB7 hb7 hf8
        go_wp2_with fail
        refine (claim_any _ _ (k + 1 + 1 + 1) _ x z _ hA8 ok7).mono ?_
        rintro e w9 ⟨rfl, hA9, hf9⟩
        have hB9 := hB8.fr hf9 (by omega) (by omega)
        have hb9 := hb8.trans (hf9.below hb8.size (fun i _ h => by omega))
        have hz9 := hf9.size
        clear hA8 hB8 hb8 hf9
        go_wp2_with fail
        refine (claim_any _ _ (k + 1 + 1) a5 x (y + z) _ hB9 ok5).mono ?_
        rintro e w10 ⟨rfl, hB10, hf10⟩
        have hA10 := hA9.fr hf10 (by omega) (by omega)
        have hb10 := hb9.trans (hf10.below hb9.size (fun i _ h => by omega))
        have hz10 := hf10.size
        clear hA9 hB9 hb9 hf10
        have ok10 := Ac.claim_ok ok7 (by omega) x z
        rcases hcl with ⟨c1, c2, c3, hae⟩ | ⟨hne, c3⟩
        · rw [c1, c2, c3]
          rw [← hae] at hB10
          generalize ((a5.claim x y).1.claim x z).1 = a10 at hA10 hB10 ok10
          have hR2 : Rel2 w (w.heap.size + 1 + 1 + 1) (w.heap.size + 1 + 1) (w1.heap.size + 1) w1.heap.size a10 (.int .i64 0) w10 := ⟨0, by omega, rfl, hA10, hB10, hb10⟩
          clear hA10 hB10 hb10 c1 c2 c3 hae ok7 ok5 hT5
          go_wp2
          go_loopw [18] (fun i wr => Rel2 w (w.heap.size + 1 + 1 + 1) (w.heap.size + 1 + 1) (w1.heap.size + 1) w1.heap.size a10 i wr) (fun i _ => 30 - (intOf i).toNat)
          case atStart => exact hR2
          case round =>
            obtain ⟨j, hj, rfl, hA, hB, hb⟩ := hrel
            clear hR2
            by_cases hj2 : j < 30
            · have hj3 : (j : Int) < 30 := by omega
              go_wp2_with fail
              refine (left_to hA ok10 rfl).mono ?_
              rintro e w11 ⟨rfl, hA1, hs1⟩
              have hB1 := hB.same hs1
              have hb1 := hb.trans (Fr.below hs1 hb.size (fun i _ x => x.elim))
              clear hA hB hb hs1
              go_wp2_with fail
              refine (left_to hB1 ok10 rfl).mono ?_
              rintro e w12 ⟨rfl, hB2, hs2⟩
              have hA2 := hA1.same hs2
              have hb2 := hb1.trans (Fr.below hs2 hb1.size (fun i _ x => x.elim))
              clear hA1 hB1 hb1 hs2
              go_wp2_with fail
              refine (expired_to hA2 ok10 rfl).mono ?_
              rintro e w13 ⟨rfl, hA3, hs3⟩
              have hB3 := hB2.same hs3
              have hb3 := hb2.trans (Fr.below hs3 hb2.size (fun i _ x => x.elim))
              clear hA2 hB2 hb2 hs3
              go_wp2_with fail
              refine (expired_to hB3 ok10 rfl).mono ?_
              rintro e w14 ⟨rfl, hB4, hs4⟩
              have HE : Hid (Rel2 w (w.heap.size + 1 + 1 + 1) (w.heap.size + 1 + 1) (w1.heap.size + 1) w1.heap.size a10 (.int .i64 ((j : Int) + 1)) w14) := ⟨j + 1, by omega, by simp, hA3.same hs4, hB4, hb3.trans (Fr.below hs4 hb3.size (fun i _ x => x.elim))⟩
              clear hA3 hB3 hB4 hb3 hs4
              go_wp2
              go_roundw
              case rel => exact HE.out
              case measure => simp [intOf]; omega
            · have hj3 : ¬ (j : Int) < 30 := by omega
              go_wp2_with fail
              refine (awake_any _).mono ?_
              rintro e w11 ⟨rfl, hb11⟩
              go_wp2
              go_ret
              exact ⟨rfl, hb.trans (hb11.mono hb.size)⟩
        · rw [c3]
          by_cases n1 : (a5.claim x y).2 = 0
          · have n2 : ((a5.claim x y).1.claim x z).2 ≠ 0 := by rcases hne with h | h; (· exact absurd n1 h); (· exact h)
            rw [n1]
            have k2 : (((a5.claim x y).1.claim x z).2 != 0) = true := by simpa using n2
            clear n1 n2 hne c3
            go_wp2_with fail
            refine (awake_any _).mono ?_
            rintro e w11 ⟨rfl, hb11⟩
            go_wp2
            go_ret
            exact ⟨rfl, hb10.trans (hb11.mono hb10.size)⟩
          · have k1 : ((a5.claim x y).2 != 0) = true := by simpa using n1
            clear n1 hne c3
            go_wp2_with fail
            refine (awake_any _).mono ?_
            rintro e w11 ⟨rfl, hb11⟩
            go_wp2
            go_ret
            exact ⟨rfl, hb10.trans (hb11.mono hb10.size)⟩
      · have k1 : ((a.credit x (1000 * y)).2 != 0) = true := by simpa using hcr
        clear hcr
        go_wp2_with fail
        refine (awake_any _).mono ?_
        rintro e w4 ⟨rfl, hb4⟩
        go_wp2
        go_ret
        exact ⟨rfl, hb3.trans (hb4.mono hb3.size)⟩

theorem walk (F P : Int) (A : Option Addr) (len cap : Nat) (xs : List (Bool × Int × Int)) (x y z : Int) (w : World) (hx : IsSteps w A len xs) :
    Calls Try.prog 6 #[.agg #[.int .i64 F, .int .i64 P], .slice A len cap, .agg #[.int .i64 x, .int .i64 y, .int .i64 z]] w fun e w' => e = .returned (.bool true) ∧ Below w.heap.size w w' := by
  by_cases h : F < 0 ∨ F > 1000 ∨ P < 1 ∨ P > 24
  · exact walk_bad F P A len cap xs x y z w hx h
  · by_cases hlen : len > 50
    · exact walk_long F P A len cap xs x y z w hx (by omega) (by omega) (by omega) (by omega) hlen
    · by_cases y0 : y < 0
      · exact walk_y0 F P A len cap xs x y z w hx (by omega) (by omega) (by omega) (by omega) (by omega) y0
      · by_cases z0 : z < 0
        · exact walk_z0 F P A len cap xs x y z w hx (by omega) (by omega) (by omega) (by omega) (by omega) (by omega) z0
        · by_cases y1 : y > 274877906944
          · exact walk_y1 F P A len cap xs x y z w hx (by omega) (by omega) (by omega) (by omega) (by omega) (by omega) (by omega) y1
          · by_cases z1 : z > 274877906944
            · exact walk_z1 F P A len cap xs x y z w hx (by omega) (by omega) (by omega) (by omega) (by omega) (by omega) (by omega) (by omega) z1
            · exact walk_main F P A len cap xs x y z w hx (by omega) (by omega) (by omega) (by omega) (by omega) (by omega) (by omega) (by omega) (by omega)

theorem own : ownKnob Try.prog.godebug = none := by kernel_rfl
theorem laidOut : laidOutB Try.prog = true := by kernel_rfl

set_option maxRecDepth 100000 in
theorem lifted (os : Os) (started : os.Started) (H : Type) (enc : TypeId × Value → H) :
    ReturnsInHanded {} Try.checked os 6 .any (Rows.claimPartsSpec.pre6 enc Try.prog Try.f6 Rows.claimPartsRow.domain false) (Rows.claimPartsSpec.post enc Try.prog Try.f6 false true false false) := by
  refine returnsInHanded_of_change (C := Try.checked) own started (by kernel_rfl) Try.func6
    (ChangeSpec.witness6 (enc := enc) (C := Try.checked) false ⟨#[], #[.agg #[.int .i64 0, .int .i64 0], .slice none 0 0, .agg #[.int .i64 0, .int .i64 0, .int .i64 0]], []⟩ 8 (by kernel_rfl) (by kernel_rfl) (by kernel_rfl) (by kernel_rfl)) ?_
  intro W base args ds gs before hval0 hW hcnd _
  have hval : ∀ (j : Nat) t v, Try.f6.params[j]? = some t → args[j]? = some v → Value.okWide Try.prog W .any base t v := hval0
  have hW' := hW
  obtain ⟨p, q, hA0, hV, rfl, hfz, hnd⟩ := hW
  have hA : DataW.TrodAll enc Try.prog W 0 (fun _ => true) true Try.f6.params.toList args.toList ds p := hA0
  rw [Try.params6] at hA hval
  obtain ⟨v0, vs0, d0, ds0, p0, q0, hargs, rfl, rfl, h0, r0⟩ := trodAll_cons hA
  obtain ⟨v1, vs1, d1, ds1, p1, q1, rfl, rfl, rfl, h1, r1⟩ := trodAll_cons r0
  obtain ⟨v2, vs2, d2, ds2, p2, q2, rfl, rfl, rfl, h2, r2⟩ := trodAll_cons r1
  obtain ⟨rfl, rfl, rfl⟩ := trodAll_nil r2
  obtain rfl : args = #[v0, v1, v2] := by cases args; simp_all
  obtain ⟨rfl, rfl⟩ := trodVars_none hV
  have k0 := h0
  have lt0 : ∀ x ∈ p0, x.block < W.heap.size := by obtain ⟨m, hm⟩ := k0; exact DataW.trod_lt m _ _ _ hm
  have ok0 := hval 0 40 v0 rfl rfl
  obtain ⟨x0, y0, rfl⟩ := open_pair ok0 h0
  have k1 := h1
  have lt1 : ∀ x ∈ p1, x.block < W.heap.size := by obtain ⟨m, hm⟩ := k1; exact DataW.trod_lt m _ _ _ hm
  have ok1 := hval 1 23 v1 rfl rfl
  obtain ⟨A1, len1, cap1, xs1, rfl, hx1⟩ := open_steps ok1 h1
  have k2 := h2
  have lt2 : ∀ x ∈ p2, x.block < W.heap.size := by obtain ⟨m, hm⟩ := k2; exact DataW.trod_lt m _ _ _ hm
  have ok2 := hval 2 22 v2 rfl rfl
  obtain ⟨x2, y2, z2, rfl, hz2, hy2⟩ := open_three ok2 h2
  clear hA0 hval0
  refine (walk x0 y0 A1 len1 cap1 xs1 x2 y2 z2 W hx1).mono fun e W' ⟨he, bel⟩ => ?_
  subst he
  exact ⟨_, rfl, _, _, _, [], _, [], hW', trodAll_mk1 (shut_bool Try.underlying4 _), (trodAll_cons_mk (Below.trod laidOut (by kernel_rfl) (of_decide_eq_true (by kernel_rfl)) k0 bel lt0) (trodAll_cons_mk (Below.trod laidOut (by kernel_rfl) (of_decide_eq_true (by kernel_rfl)) k1 bel lt1) (trodAll_cons_mk (Below.trod laidOut (by kernel_rfl) (of_decide_eq_true (by kernel_rfl)) k2 bel lt2) trodAll_mk0))), rfl, bel.frame _, fun h => by cases h⟩

theorem over : Rows.claimPartsRow.holds Try.pinned (OpenSpec.ofChange Rows.claimPartsSpec) :=
  OpenClaim.holds_of_wide 6 Try.f6 rfl rfl rfl rfl rfl rfl rfl ⟨rfl, rfl, rfl, rfl, rfl⟩ rfl rfl rfl rfl rfl (by kernel_rfl) Try.func6 (by kernel_rfl)
    (of_decide_eq_true (by kernel_rfl)) (by unfold Func.isWrapper; first | (rw [if_pos (by decide +kernel)]; kernel_rfl) | (rw [if_neg (by decide +kernel)]; exact ⟨rfl, rfl⟩))
    (fun os started H enc _ => lifted os started H enc)

theorem proved : Rows.ClaimPartsSaid := over
end Go.Proofs.Ytpapgldjmglaiaa.claimParts
