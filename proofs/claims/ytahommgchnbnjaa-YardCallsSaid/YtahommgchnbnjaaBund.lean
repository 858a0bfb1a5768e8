/-
  A yard that the law made, in one word; its methods in that word; the walk of awake.
-/
import Derived.Test.YtahommgchnbnjaaWalkg
namespace Go.Proofs.Ytahommgchnbnjaa
open Go.RowKit

/-- A yard that the law made: w0: the world in which the law began; K: blocks that the law keeps besides. -/
structure YB (w0 : World) (K : Nat → Prop) (w : World) (g b c p : Nat) (ys : Ys) : Prop where
  ex : ∃ ls, IsY w g b ls c p ∧ ls.map Bay.es = ys ∧ ∀ i, Own g b ls i → w0.heap.size ≤ i ∧ ¬ K i
  bel : Below w0.heap.size w0 w
  kl : ∀ i, K i → i < w.heap.size

section
variable {w0 w w' : World} {K : Nat → Prop} {g b c p p' : Nat} {ys ys' : Ys}
theorem YB.ok (h : YB w0 K w g b c p ys) : YOk c ys := by obtain ⟨ls, hv, rfl, _⟩ := h.ex; exact hv.ok
theorem YB.mono {K' : Nat → Prop} (h : YB w0 K w g b c p ys) (hk : ∀ i, K' i → K i) : YB w0 K' w g b c p ys := by
  obtain ⟨ls, hv, hb, ho⟩ := h.ex
  exact ⟨⟨ls, hv, hb, fun i hi => ⟨(ho i hi).1, fun x => (ho i hi).2 (hk i x)⟩⟩, h.bel, fun i hi => h.kl i (hk i hi)⟩
theorem YB.growK {S : Nat → Prop} (h : YB w0 K w g b c p ys) (hf : Fr S w w') (hS : ∀ i, S i → K i ∧ w0.heap.size ≤ i) : YB w0 (fun i => K i ∨ (w.heap.size ≤ i ∧ i < w'.heap.size)) w' g b c p ys := by
  obtain ⟨ls, hv, hb, ho⟩ := h.ex
  refine ⟨⟨ls, hv.fr hf (fun i hi hs => (ho i hi).2 (hS i hs).1), hb, fun i hi => ⟨(ho i hi).1, fun x => ?_⟩⟩, h.bel.trans (hf.below h.bel.size (fun i _ hs => (hS i hs).2)), fun i hi => ?_⟩
  · rcases x with x | x
    · exact (ho i hi).2 x
    · have := hv.lt i hi
      omega
  · rcases hi with x | x
    · exact Nat.lt_of_lt_of_le (h.kl i x) hf.size
    · exact x.2
theorem YB.grow (h : YB w0 K w g b c p ys) (hs : Same w w') : YB w0 (fun i => K i ∨ (w.heap.size ≤ i ∧ i < w'.heap.size)) w' g b c p ys := h.growK hs (fun _ x => x.elim)
theorem YB.same (h : YB w0 K w g b c p ys) (hs : Same w w') : YB w0 K w' g b c p ys := (h.grow hs).mono fun _ hi => .inl hi
theorem YB.base (h : YB w K w' g b c p ys) (hb : Below w0.heap.size w0 w) : YB w0 K w' g b c p ys := by
  obtain ⟨ls, hv, hbs, ho⟩ := h.ex
  exact ⟨⟨ls, hv, hbs, fun i hi => ⟨Nat.le_trans hb.size (ho i hi).1, (ho i hi).2⟩⟩, hb.trans (h.bel.mono hb.size), h.kl⟩
theorem RS.keep {A : Option Addr} {n : Nat} {xs : List Bs} (h : RS w A n xs) (hf : Fr (fun i => ¬ K i) w w') (hk : ∀ i, InA A i → K i) : RS w' A n xs := h.fr hf (fun i hi hn => hn (hk i hi))

theorem new_yb (n c : Nat) (w : World) (h1 : 1 ≤ n) (h2 : n ≤ 16) (h3 : 1 ≤ c) (h4 : c ≤ 32) : Calls Try.prog 11 #[.int .i64 n, .int .i64 c] w fun e w' =>
    e = .returned (.tuple #[.pointer (some ⟨w.heap.size + 1, 0, none⟩), .int .i64 0]) ∧ YB w (fun _ => False) w' (w.heap.size + 1) w.heap.size c 0 (List.replicate n []) ∧ Same w w' := by
  refine (new_any n c w h1 h2 h3 h4).mono ?_
  rintro e w' ⟨he, hY, hs⟩
  refine ⟨he, ⟨⟨_, hY, by rw [List.map_replicate], fun i hi => ⟨?_, fun x => x⟩⟩, hs.below, fun _ x => x.elim⟩, hs⟩
  rcases hi with rfl | rfl | ⟨k, x, hx, hi⟩
  · omega
  · omega
  · rw [List.eq_of_mem_replicate (List.mem_of_getElem? hx)] at hi
    cases hi
theorem YB.moved {ls ls' : List Bay} (h : YB w0 K w g b c p ys) (ho : ∀ i, Own g b ls i → w0.heap.size ≤ i ∧ ¬ K i) (hY : IsY w' g b ls' c p') (he : ls'.map Bay.es = ys') (hu : Upd w w' g b ls ls') : YB w0 K w' g b c p' ys' ∧ Fr (fun i => ¬ K i) w w' := by
  have hz := hu.fr.size
  refine ⟨⟨⟨ls', hY, he, fun i hi => ?_⟩, h.bel.trans (hu.fr.below h.bel.size (fun i _ hi => (ho i hi).1)), fun i hi => Nat.lt_of_lt_of_le (h.kl i hi) hz⟩, hu.fr.mono fun i _ hi => (ho i hi).2⟩
  rcases hu.own i hi with e | e
  · exact ho i e
  · have := h.bel.size
    exact ⟨by omega, fun x => by have := h.kl i x; omega⟩
theorem put_yb {i : Int} {x : Bs} (h : YB w0 K w g b c p ys) (hp : p ≤ 100000) (hi : -9223372036854775808 ≤ i ∧ i ≤ 9223372036854775807) : Calls Try.prog 12 #[.pointer (some ⟨g, 0, none⟩), .int .i64 i, .string x] w fun e w' =>
    e = .returned (.int .i64 (yPut c ys p i x).2.2) ∧ YB w0 K w' g b c (yPut c ys p i x).2.1 (yPut c ys p i x).1 ∧ Fr (fun i => ¬ K i) w w' := by
  obtain ⟨ls, hv, rfl, ho⟩ := h.ex
  refine (put_any g b c p ls i x w hv hp hi).mono ?_
  rintro e w' ⟨he, ls', hY, hb, hu⟩
  exact ⟨he, h.moved ho hY hb hu⟩
theorem take_yb {x : Bs} (h : YB w0 K w g b c p ys) : Calls Try.prog 14 #[.pointer (some ⟨g, 0, none⟩), .string x] w fun e w' =>
    e = .returned (.tuple #[.int .i64 ((yTake c ys x).2.1 : Nat), .int .i64 (yTake c ys x).2.2]) ∧ YB w0 K w' g b c p (yTake c ys x).1 ∧ Fr (fun i => ¬ K i) w w' := by
  obtain ⟨ls, hv, rfl, ho⟩ := h.ex
  refine (take_any g b c p ls x w hv).mono ?_
  rintro e w' ⟨he, ls', hY, hb, hu⟩
  exact ⟨he, h.moved ho hY hb hu⟩
theorem find_yb {x : Bs} (h : YB w0 K w g b c p ys) : Calls Try.prog 16 #[.pointer (some ⟨g, 0, none⟩), .string x] w fun e w' => e = .returned (findV (yFind ys x)) ∧ YB w0 K w' g b c p ys ∧ Same w w' := by
  obtain ⟨ls, hv, rfl, ho⟩ := h.ex
  exact (find_any g b c p ls x w hv).mono fun e w' ⟨he, hs⟩ => ⟨he, h.same hs, hs⟩
theorem oldest_yb (h : YB w0 K w g b c p ys) : Calls Try.prog 13 #[.pointer (some ⟨g, 0, none⟩)] w fun e w' => e = .returned (oldV (yOld ys)) ∧ YB w0 K w' g b c p ys ∧ Same w w' := by
  obtain ⟨ls, hv, rfl, ho⟩ := h.ex
  exact (oldest_any g b c p ls w hv).mono fun e w' ⟨he, hs⟩ => ⟨he, h.same hs, hs⟩
theorem len_yb (h : YB w0 K w g b c p ys) : Calls Try.prog 15 #[.pointer (some ⟨g, 0, none⟩)] w fun e w' => e = .returned (.int .i64 (totK ys ys.length : Nat)) ∧ YB w0 K w' g b c p ys ∧ Same w w' := by
  obtain ⟨ls, hv, rfl, ho⟩ := h.ex
  rw [List.length_map]
  exact (len_any g b c p ls w hv).mono fun e w' ⟨he, hs⟩ => ⟨he, h.same hs, hs⟩
theorem bay_yb {i : Int} (h : YB w0 K w g b c p ys) (hi : -9223372036854775808 ≤ i ∧ i ≤ 9223372036854775807) : Calls Try.prog 17 #[.pointer (some ⟨g, 0, none⟩), .int .i64 i] w fun e w' =>
    ∃ A cap, e = .returned (.slice A (yBay ys i).length cap) ∧ RS w' A (yBay ys i).length (yBay ys i) ∧ YB w0 (fun i => K i ∨ (w.heap.size ≤ i ∧ i < w'.heap.size)) w' g b c p ys ∧ Same w w' ∧ ∀ i, InA A i → w.heap.size ≤ i ∧ i < w'.heap.size := by
  obtain ⟨ls, hv, rfl, ho⟩ := h.ex
  exact (bay_any g b c p ls i w hv hi).mono fun e w' ⟨A, cap, he, hr, hs, hn⟩ => ⟨A, cap, he, hr, h.grow hs, hs, hn⟩

/-! ### The same, where the model's answer is known -/
theorem put_to {i : Int} {x : Bs} {e : Int} (h : YB w0 K w g b c p ys) (he : yPut c ys p i x = (ys', p', e)) (hp : p ≤ 100000) (hi : -9223372036854775808 ≤ i ∧ i ≤ 9223372036854775807) : Calls Try.prog 12 #[.pointer (some ⟨g, 0, none⟩), .int .i64 i, .string x] w fun r w' =>
    r = .returned (.int .i64 e) ∧ YB w0 K w' g b c p' ys' ∧ Fr (fun i => ¬ K i) w w' := by
  have := put_yb (i := i) (x := x) h hp hi
  rwa [he] at this
theorem take_to {x : Bs} {n : Nat} {e : Int} (h : YB w0 K w g b c p ys) (he : yTake c ys x = (ys', n, e)) : Calls Try.prog 14 #[.pointer (some ⟨g, 0, none⟩), .string x] w fun r w' =>
    r = .returned (.tuple #[.int .i64 (n : Nat), .int .i64 e]) ∧ YB w0 K w' g b c p ys' ∧ Fr (fun i => ¬ K i) w w' := by
  have := take_yb (x := x) h
  rwa [he] at this
theorem find_to {x : Bs} {i m : Nat} {f : Bool} (h : YB w0 K w g b c p ys) (he : yFind ys x = (i, m, f)) : Calls Try.prog 16 #[.pointer (some ⟨g, 0, none⟩), .string x] w fun e w' => e = .returned (.tuple #[.int .i64 (i : Nat), .int .i64 (m : Nat), .bool f]) ∧ YB w0 K w' g b c p ys ∧ Same w w' := by
  have := find_yb (x := x) h
  rwa [he] at this
theorem oldest_to {x : Bs} {f : Bool} (h : YB w0 K w g b c p ys) (he : (((yOld ys).map Prod.fst).getD nul, (yOld ys).isSome) = (x, f)) : Calls Try.prog 13 #[.pointer (some ⟨g, 0, none⟩)] w fun e w' => e = .returned (.tuple #[.string x, .bool f]) ∧ YB w0 K w' g b c p ys ∧ Same w w' := by
  have := oldest_yb h
  unfold oldV at this
  rw [Prod.mk.injEq] at he
  rwa [he.1, he.2] at this
theorem len_to {n : Nat} (h : YB w0 K w g b c p ys) (he : totK ys ys.length = n) : Calls Try.prog 15 #[.pointer (some ⟨g, 0, none⟩)] w fun e w' => e = .returned (.int .i64 (n : Nat)) ∧ YB w0 K w' g b c p ys ∧ Same w w' := by
  have := len_yb h
  rwa [he] at this
theorem bay_to {i : Int} {xs : List Bs} (h : YB w0 K w g b c p ys) (he : yBay ys i = xs) (hi : -9223372036854775808 ≤ i ∧ i ≤ 9223372036854775807) : Calls Try.prog 17 #[.pointer (some ⟨g, 0, none⟩), .int .i64 i] w fun e w' =>
    ∃ A cap, e = .returned (.slice A xs.length cap) ∧ RS w' A xs.length xs ∧ YB w0 (fun i => K i ∨ (w.heap.size ≤ i ∧ i < w'.heap.size)) w' g b c p ys ∧ Same w w' ∧ ∀ i, InA A i → w.heap.size ≤ i ∧ i < w'.heap.size := by
  have := bay_yb h hi
  rwa [he] at this
end

abbrev sA : Bs := ⟨#[97]⟩
abbrev sB : Bs := ⟨#[98]⟩
abbrev sC : Bs := ⟨#[99]⟩

set_option maxRecDepth 100000 in
set_option maxHeartbeats 4000000 in
theorem awake_any (w : World) : Calls Try.prog 10 #[] w fun e w' => e = .returned (.bool true) ∧ Below w.heap.size w w' := by
  go_enter Try.func10, Try.ntmps10
  go_wp2_with fail
  refine (new_yb 3 2 w (by omega) (by omega) (by omega) (by omega)).mono ?_
  rintro e w1 ⟨rfl, h1, _⟩
  go_wp2_with fail
  refine (put_to (i := 0) (x := sA) (ys' := [[(sA, 0)], [], []]) (p' := 1) (e := 0) h1 (by decide +kernel) (by omega) (by omega)).mono ?_
  rintro e w2 ⟨rfl, h2, _⟩
  clear h1
  go_wp2_with fail
  refine (put_to (i := 0) (x := sB) (ys' := [[(sA, 0), (sB, 1)], [], []]) (p' := 2) (e := 0) h2 (by decide +kernel) (by omega) (by omega)).mono ?_
  rintro e w3 ⟨rfl, h3, _⟩
  clear h2
  go_wp2_with fail
  refine (put_to (i := 1) (x := sC) (ys' := [[(sA, 0), (sB, 1)], [(sC, 2)], []]) (p' := 3) (e := 0) h3 (by decide +kernel) (by omega) (by omega)).mono ?_
  rintro e w4 ⟨rfl, h4, _⟩
  clear h3
  go_wp2_with fail
  refine (put_to (i := 3) (x := nul) (ys' := [[(sA, 0), (sB, 1)], [(sC, 2)], []]) (p' := 3) (e := 9) h4 (by decide +kernel) (by omega) (by omega)).mono ?_
  rintro e w5 ⟨rfl, h5, _⟩
  clear h4
  go_wp2_with fail
  refine (take_to (x := sA) (ys' := [[], [(sC, 2), (sB, 1)], []]) (n := 1) (e := 0) h5 (by decide +kernel)).mono ?_
  rintro e w6 ⟨rfl, h6, _⟩
  clear h5
  go_wp2_with fail
  refine (bay_to (i := 1) (xs := [sC, sB]) h6 (by decide +kernel) (by omega)).mono ?_
  rintro e w7 ⟨A7, c7, rfl, r7, h7, _, _⟩
  clear h6
  go_wp2_with fail
  refine (oldest_to (x := sB) (f := true) h7 (by decide +kernel)).mono ?_
  rintro e w8 ⟨rfl, h8, s8⟩
  replace r7 := r7.same s8
  clear h7 s8
  go_wp2_with fail
  refine (find_to (x := sC) (i := 1) (m := 1) (f := true) h8 (by decide +kernel)).mono ?_
  rintro e w9 ⟨rfl, h9, s9⟩
  replace r7 := r7.same s9
  clear h8 s9
  obtain ⟨g7, o7, rfl, k0, _⟩ := r7.2.2 1 sB rfl
  clear r7
  go_wp2_with fail
  refine (len_to (n := 2) h9 (by decide +kernel)).mono ?_
  rintro e w10 ⟨rfl, h10, _⟩
  go_wp2
  go_ret
  exact ⟨rfl, h10.bel⟩

end Go.Proofs.Ytahommgchnbnjaa
