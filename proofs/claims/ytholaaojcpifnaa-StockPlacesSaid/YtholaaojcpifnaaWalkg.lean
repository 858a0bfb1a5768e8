/-
  The walk of awake.
-/
import Derived.Test.YtholaaojcpifnaaWalkf
namespace Go.Proofs.Ytholaaojcpifnaa
open Go.RowKit

section
variable {w0 w : World} {K : Nat → Prop} {g r : Nat} {s s' : Stk} {c : Int}
theorem add_to {x : Bs} (h : SB w0 K w g r s) (e : sAdd s x = (s', c)) : Calls Try.prog 21 #[.pointer (some ⟨g, 0, none⟩), .string x] w fun e w' => e = .returned (.int .i64 c) ∧ SB w0 K w' g r s' ∧ Fr (fun i => ¬ K i) w w' := by
  have := add_sb (x := x) h
  rwa [e] at this
theorem reserve_to {x o : Bs} (h : SB w0 K w g r s) (e : sReserve s x o = (s', c)) : Calls Try.prog 22 #[.pointer (some ⟨g, 0, none⟩), .string x, .string o] w fun e w' => e = .returned (.int .i64 c) ∧ SB w0 K w' g r s' ∧ Fr (fun i => ¬ K i) w w' := by
  have := reserve_sb (x := x) (o := o) h
  rwa [e] at this
theorem release_to {o : Bs} {n : Nat} (h : SB w0 K w g r s) (e : sRelease s o = s') (en : (held s o).length = n) : Calls Try.prog 25 #[.pointer (some ⟨g, 0, none⟩), .string o] w fun e w' => e = .returned (.int .i64 n) ∧ SB w0 K w' g r s' ∧ Fr (fun i => ¬ K i) w w' := by
  have := release_sb (o := o) h
  rwa [e, en] at this
theorem of_to {x o : Bs} {b : Bool} (h : SB w0 K w g r s) (e1 : (getG s x).getD nul = o) (e2 : (getG s x).isSome = b) : Calls Try.prog 14 #[.pointer (some ⟨g, 0, none⟩), .string x] w fun e w' => e = .returned (.tuple #[.string o, .bool b]) ∧ w = w' := by
  have := of_sb (x := x) h
  rwa [e1, e2] at this
theorem free_to {xs : List Bs} (h : SB w0 K w g r s) (e : withs s nul = xs) : Calls Try.prog 17 #[.pointer (some ⟨g, 0, none⟩)] w (RetB w0 K g r s w xs) := by
  have := free_sb h
  rwa [e] at this
theorem held_to {o : Bs} {xs : List Bs} (h : SB w0 K w g r s) (e : held s o = xs) : Calls Try.prog 19 #[.pointer (some ⟨g, 0, none⟩), .string o] w (RetB w0 K g r s w xs) := by
  have := held_sb (o := o) h
  rwa [e] at this
theorem remove_to {o : Bs} {xs : List Bs} (h : SB w0 K w g r s) (e : held s o = xs) (e2 : sRemove s o = s') : Calls Try.prog 23 #[.pointer (some ⟨g, 0, none⟩), .string o] w fun e w' =>
    ∃ A cap, e = .returned (.slice A xs.length cap) ∧ RS w' A xs.length xs ∧ Fr (fun i => ¬ K i) w w' ∧ SB w0 (fun i => K i ∨ InA A i) w' g r s' := by
  have := remove_sb (o := o) h
  rwa [e, e2] at this
theorem RS.lit1 (w : World) (x : Bs) : RS (w.alloc (.cells #[.string x] 9)) (some ⟨w.heap.size, 0, none⟩) 1 [x] :=
  ⟨rfl, by omega, fun k y hy => by
    have hk : k = 0 := by
      have := (List.getElem?_eq_some_iff.1 hy).1
      simp at this
      omega
    subst hk
    simp at hy
    subst hy
    exact ⟨w.heap.size, 0, rfl, by simp, by simp⟩⟩
theorem RS.lit2 (w : World) (x y : Bs) : RS (w.alloc (.cells #[.string x, .string y] 9)) (some ⟨w.heap.size, 0, none⟩) 2 [x, y] :=
  ⟨rfl, by omega, fun k z hz => by
    have hk : k < 2 := by simpa using (List.getElem?_eq_some_iff.1 hz).1
    refine ⟨w.heap.size, 0, rfl, ?_, by simp⟩
    match k, hk with
    | 0, _ => simp at hz; subst hz; simp
    | 1, _ => simp at hz; subst hz; simp⟩
theorem same_rs {A B : Option Addr} {n cA cB : Nat} {xs : List Bs} (ha : RS w A n xs) (hb : RS w B n xs) : Calls Try.prog 16 #[.slice A n cA, .slice B n cB] w fun e w' => e = .returned (.bool true) ∧ Same w w' :=
  (same_any A B n cA cB xs w ha hb).mono fun _ _ ⟨he, m, hm⟩ => ⟨he, by rw [hm]; exact (Fr.refl _ _).drewN m⟩
end

abbrev cA : Bs := ⟨#[97]⟩
abbrev cB : Bs := ⟨#[98]⟩
abbrev cC : Bs := ⟨#[99]⟩
abbrev cO : Bs := ⟨#[111]⟩

set_option maxRecDepth 100000 in
set_option maxHeartbeats 4000000 in
theorem awake_any (w : World) : Calls Try.prog 10 #[] w fun e w' => e = .returned (.bool true) ∧ Below w.heap.size w w' := by
  go_enter Try.func10, Try.ntmps10
  go_wp2_with fail
  refine (new_sb w).mono ?_
  rintro e w1 ⟨rfl, h1⟩
  go_wp2_with fail
  refine (add_to (x := cA) (s' := [(cA, nul)]) (c := 0) h1 (by decide +kernel)).mono ?_
  rintro e w2 ⟨rfl, h2, f2⟩
  clear h1 f2
  go_wp2_with fail
  refine (add_to (x := cB) (s' := [(cA, nul), (cB, nul)]) (c := 0) h2 (by decide +kernel)).mono ?_
  rintro e w3 ⟨rfl, h3, f3⟩
  clear h2 f3
  go_wp2_with fail
  refine (add_to (x := cC) (s' := [(cA, nul), (cB, nul), (cC, nul)]) (c := 0) h3 (by decide +kernel)).mono ?_
  rintro e w4 ⟨rfl, h4, f4⟩
  clear h3 f4
  go_wp2_with fail
  refine (reserve_to (x := cB) (o := cO) (s' := [(cA, nul), (cB, cO), (cC, nul)]) (c := 0) h4 (by decide +kernel)).mono ?_
  rintro e w5 ⟨rfl, h5, f5⟩
  clear h4 f5
  go_wp2_with fail
  refine (of_to (x := cB) (o := cO) (b := true) h5 (by decide +kernel) (by decide +kernel)).mono ?_
  rintro e w' ⟨rfl, rfl⟩
  go_wp2_with fail
  refine (free_to (xs := [cA, cC]) h5 (by decide +kernel)).mono ?_
  rintro e w6 ⟨Af, capf, rfl, rf, _, h6⟩
  clear h5
  go_wp2_with fail
  refine (held_to (o := cO) (xs := [cB]) h6 (by decide +kernel)).mono ?_
  rintro e w7 ⟨Ah, caph, rfl, rh, sh, h7⟩
  replace rf := rf.same sh
  clear h6 sh
  go_wp2_with fail
  refine (reserve_to (x := cB) (o := ⟨#[112]⟩) (s' := [(cA, nul), (cB, cO), (cC, nul)]) (c := 14) h7 (by decide +kernel)).mono ?_
  rintro e w8 ⟨rfl, h8, f8⟩
  replace rf := rf.keep f8 (fun i hi => .inl (.inr hi))
  replace rh := rh.keep f8 (fun i hi => .inr hi)
  clear h7 f8
  go_wp2_with fail
  refine (reserve_to (x := ⟨#[100]⟩) (o := ⟨#[112]⟩) (s' := [(cA, nul), (cB, cO), (cC, nul)]) (c := 8) h8 (by decide +kernel)).mono ?_
  rintro e w9 ⟨rfl, h9, f9⟩
  replace rf := rf.keep f9 (fun i hi => .inl (.inr hi))
  replace rh := rh.keep f9 (fun i hi => .inr hi)
  clear h8 f9
  go_wp2_with fail
  refine (reserve_to (x := cA) (o := nul) (s' := [(cA, nul), (cB, cO), (cC, nul)]) (c := 6) h9 (by decide +kernel)).mono ?_
  rintro e w10 ⟨rfl, h10, f10⟩
  replace rf := rf.keep f10 (fun i hi => .inl (.inr hi))
  replace rh := rh.keep f10 (fun i hi => .inr hi)
  clear h9 f10
  go_wp2_with fail
  refine (release_to (o := cO) (s' := [(cA, nul), (cB, nul), (cC, nul)]) (n := 1) h10 (by decide +kernel) (by decide +kernel)).mono ?_
  rintro e w11 ⟨rfl, h11, f11⟩
  replace rf := rf.keep f11 (fun i hi => .inl (.inr hi))
  replace rh := rh.keep f11 (fun i hi => .inr hi)
  clear h10 f11
  go_wp2_with fail
  refine (reserve_to (x := cC) (o := cO) (s' := [(cA, nul), (cB, nul), (cC, cO)]) (c := 0) h11 (by decide +kernel)).mono ?_
  rintro e w12 ⟨rfl, h12, f12⟩
  replace rf := rf.keep f12 (fun i hi => .inl (.inr hi))
  replace rh := rh.keep f12 (fun i hi => .inr hi)
  clear h11 f12
  go_wp2_with fail
  refine (reserve_to (x := cA) (o := cO) (s' := [(cA, cO), (cB, nul), (cC, cO)]) (c := 0) h12 (by decide +kernel)).mono ?_
  rintro e w13 ⟨rfl, h13, f13⟩
  replace rf := rf.keep f13 (fun i hi => .inl (.inr hi))
  replace rh := rh.keep f13 (fun i hi => .inr hi)
  clear h12 f13
  go_wp2_with fail
  refine (remove_to (o := cO) (xs := [cA, cC]) (s' := [(cB, nul)]) h13 (by decide +kernel) (by decide +kernel)).mono ?_
  rintro e w14 ⟨Ar, capr, rfl, rr, f14, h14⟩
  replace rf := rf.keep f14 (fun i hi => .inl (.inr hi))
  replace rh := rh.keep f14 (fun i hi => .inr hi)
  clear h13 f14
  have al1 : Same w14 (w14.alloc (.cells #[.string cA, .string cC] 9)) := (Fr.refl _ _).alloc _
  go_wp2_with fail
  refine (same_rs (rf.same al1) (RS.lit2 _ _ _)).mono ?_
  rintro e w20 ⟨rfl, s20⟩
  have t20 : Same w14 w20 := al1.trans s20
  replace rh := rh.same t20
  replace rr := rr.same t20
  have h20 := h14.same t20
  clear rf h14 s20 t20 al1
  have al2 : Same w20 (w20.alloc (.cells #[.string cB] 9)) := (Fr.refl _ _).alloc _
  go_wp2_with fail
  refine (same_rs (rh.same al2) (RS.lit1 _ _)).mono ?_
  rintro e w21 ⟨rfl, s21⟩
  have t21 : Same w20 w21 := al2.trans s21
  replace rr := rr.same t21
  have h21 := h20.same t21
  clear rh h20 s21 t21 al2
  have al3 : Same w21 (w21.alloc (.cells #[.string cA, .string cC] 9)) := (Fr.refl _ _).alloc _
  go_wp2_with fail
  refine (same_rs (rr.same al3) (RS.lit2 _ _ _)).mono ?_
  rintro e w22 ⟨rfl, s22⟩
  have t22 : Same w21 w22 := al3.trans s22
  have h22 := h21.same t22
  clear rr h21 s22 t22 al3
  go_wp2_with fail
  refine (add_to (x := cB) (s' := [(cB, nul)]) (c := 7) h22 (by decide +kernel)).mono ?_
  rintro e w23 ⟨rfl, h23, _⟩
  go_wp2
  go_ret
  exact ⟨rfl, h23.bel⟩

theorem of_nil (x : Bs) (w : World) : Calls Try.prog 14 #[.pointer none, .string x] w fun e w' => e = .returned (.tuple #[.string nul, .bool false]) ∧ w = w' := by
  go_enter Try.func14, Try.ntmps14
  go_wp2
  go_ret2
  exact ⟨rfl, rfl⟩
theorem add_nil (x : Bs) (w : World) : Calls Try.prog 21 #[.pointer none, .string x] w fun e w' => e = .returned (.int .i64 1) ∧ w = w' := by
  go_enter Try.func21, Try.ntmps21
  go_wp2
  go_ret
  exact ⟨rfl, rfl⟩
theorem reserve_nil (x o : Bs) (w : World) : Calls Try.prog 22 #[.pointer none, .string x, .string o] w fun e w' => e = .returned (.int .i64 1) ∧ w = w' := by
  go_enter Try.func22, Try.ntmps22
  go_wp2
  go_ret
  exact ⟨rfl, rfl⟩
theorem with_nil (o : Bs) (w : World) : Calls Try.prog 31 #[.pointer none, .string o] w fun e w' => e = .returned (.slice none 0 0) ∧ w = w' := by
  go_enter Try.func31, Try.ntmps31
  go_wp2
  go_ret
  exact ⟨rfl, rfl⟩
theorem free_nil (w : World) : Calls Try.prog 17 #[.pointer none] w fun e w' => e = .returned (.slice none 0 0) ∧ w = w' := by
  go_enter Try.func17, Try.ntmps17
  go_wp2_with fail
  refine (with_nil _ w).mono ?_
  rintro e w1 ⟨rfl, rfl⟩
  go_wp2
  go_ret
  exact ⟨rfl, rfl⟩
theorem held_nil (o : Bs) (w : World) : Calls Try.prog 19 #[.pointer none, .string o] w fun e w' => e = .returned (.slice none 0 0) ∧ w = w' := by
  by_cases ho : o = nul
  · have k := eq_of ho
    clear ho
    go_enter Try.func19, Try.ntmps19
    go_wp2
    go_ret
    exact ⟨rfl, rfl⟩
  · have k := ne_of ho
    clear ho
    go_enter Try.func19, Try.ntmps19
    go_wp2_with fail
    refine (with_nil _ w).mono ?_
    rintro e w1 ⟨rfl, rfl⟩
    go_wp2
    go_ret
    exact ⟨rfl, rfl⟩
set_option maxHeartbeats 400000 in
theorem release_nil (o : Bs) (w : World) : Calls Try.prog 25 #[.pointer none, .string o] w fun e w' => e = .returned (.int .i64 0) ∧ w = w' := by
  go_enter Try.func25, Try.ntmps25
  go_wp2_with fail
  refine (held_nil o w).mono ?_
  rintro e w1 ⟨rfl, rfl⟩
  go_wp2
  refine wp_loop_once ?_
  go_wp2
  go_ret
  exact ⟨rfl, rfl⟩
theorem remove_nilp (o : Bs) (w : World) : Calls Try.prog 23 #[.pointer none, .string o] w fun e w' => e = .returned (.slice none 0 0) ∧ w = w' := by
  go_enter Try.func23, Try.ntmps23
  go_wp2_with fail
  refine (held_nil o w).mono ?_
  rintro e w1 ⟨rfl, rfl⟩
  go_wp2
  go_ret
  exact ⟨rfl, rfl⟩

end Go.Proofs.Ytholaaojcpifnaa
