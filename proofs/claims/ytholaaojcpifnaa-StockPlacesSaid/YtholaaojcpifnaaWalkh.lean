/-
  The walks of the law's small and do.
-/
import Derived.Test.YtholaaojcpifnaaWalkg
import Derived.Test.YtholaaojcpifnaaArgs
namespace Go.Proofs.Ytholaaojcpifnaa
open Go.RowKit

/-- How small ends: nothing turns; true only for at most 200 operations. -/
def SmallEnd (w : World) (len : Nat) (e : Ending) (w' : World) : Prop := ∃ b, e = .returned (.bool b) ∧ w = w' ∧ (b = true → len ≤ 200)

set_option maxRecDepth 100000 in
set_option maxHeartbeats 1000000 in
theorem small_any (A : Option Addr) (len cap : Nat) (xs : List OpD) (w : World) (hx : IsOps w A len xs) : Calls Try.prog 9 #[.slice A len cap] w (SmallEnd w len) := by
  have hml := hx.2.1
  have HX := Lib.hid hx
  clear hx
  by_cases hlen : (len : Int) > 200
  · go_enter Try.func9, Try.ntmps9
    go_wp2
    go_ret
    exact ⟨false, rfl, rfl, fun h => by cases h⟩
  · have hl2 : len ≤ 200 := by omega
    have HL := Lib.hid hl2
    clear hl2
    go_enter Try.func9, Try.ntmps9
    go_wp2
    go_loop [3] (fun i => ∃ k : Nat, k ≤ len ∧ i = .int .i64 k) (fun i => len - (intOf i).toNat)
    case atStart => exact ⟨0, by omega, rfl⟩
    case round =>
      obtain ⟨k, hk, rfl⟩ := hrel
      by_cases hlt : k < len
      · obtain ⟨x, hxk⟩ : ∃ x, xs[k]? = some x := ⟨xs[k]'(by rw [HX.out.1]; exact hlt), List.getElem?_eq_getElem _⟩
        obtain ⟨b, o, rfl, hbl, hc0, hc1, hc2, hwf⟩ := HX.out.2.2 k x hxk
        obtain ⟨_, s1, s2⟩ := hwf
        clear hc0 hxk
        by_cases h1 : (x.item.size : Int) > 100
        · go_wp2
          go_ret
          exact ⟨false, rfl, rfl, fun h => by cases h⟩
        · by_cases h2 : (x.order.size : Int) > 100
          · go_wp2
            go_ret
            exact ⟨false, rfl, rfl, fun h => by cases h⟩
          · go_wp2
            go_round
            case rel => exact ⟨k + 1, by omega, by go_num⟩
            case measure => simp [intOf]; omega
      · go_wp2
        go_ret
        exact ⟨true, rfl, rfl, fun _ => HL.out⟩

/-- What an operation does: the stock, the code, the number, the items. -/
def sDo (s : Stk) (x : OpD) : Stk × Int × Int × List Bs :=
  if x.kind = 0 then ((sAdd s x.item).1, (sAdd s x.item).2, 0, [])
  else if x.kind = 1 then ((sReserve s x.item x.order).1, (sReserve s x.item x.order).2, 0, [])
  else if x.kind = 2 then (sRelease s x.order, 0, (held s x.order).length, [])
  else (sRemove s x.order, 0, 0, held s x.order)

/-- How do ends. -/
def DoEnd (w0 : World) (K : Nat → Prop) (g r : Nat) (w : World) (y : Stk × Int × Int × List Bs) (e : Ending) (w' : World) : Prop :=
  ∃ A cap, e = .returned (.tuple #[.int .i64 y.2.1, .int .i64 y.2.2.1, .slice A y.2.2.2.length cap]) ∧ RS w' A y.2.2.2.length y.2.2.2 ∧ Fr (fun i => ¬ K i) w w' ∧ SB w0 (fun i => K i ∨ InA A i) w' g r y.1

theorem SB.kn {w0 w : World} {K : Nat → Prop} {g r : Nat} {s : Stk} (h : SB w0 K w g r s) : SB w0 (fun i => K i ∨ InA none i) w g r s := h.mono fun i hi => hi.elim (fun x => x) (fun ⟨_, e⟩ => by cases e)

set_option maxHeartbeats 1000000 in
theorem do_sb {w0 w : World} {K : Nat → Prop} {g r : Nat} {s : Stk} (x : OpD) (h : SB w0 K w g r s) : Calls Try.prog 12 #[.pointer (some ⟨g, 0, none⟩), x.agg] w (DoEnd w0 K g r w (sDo s x)) := by
  obtain ⟨kd, it, od⟩ := x
  have hal : Same w (w.alloc (.cells #[.int .u8 kd, .string it, .string od] 29)) := (Fr.refl _ _).alloc _
  have h1 := h.same hal
  clear h
  unfold OpD.agg
  simp only
  by_cases e0 : kd = 0
  · subst e0
    go_enter Try.func12, Try.ntmps12
    go_wp2_with fail
    refine (add_sb h1).mono ?_
    rintro e w2 ⟨rfl, h2, f2⟩
    clear h1
    go_wp2
    refine bodyPost_ret (results_tmp3 rfl _ _ _) rfl ?_
    exact ⟨none, 0, rfl, RS.nil _ _, (hal.to _).trans f2, h2.kn⟩
  · have k0 : (kd == 0) = false := by simpa using e0
    by_cases e1 : kd = 1
    · subst e1
      go_enter Try.func12, Try.ntmps12
      go_wp2_with fail
      refine (reserve_sb h1).mono ?_
      rintro e w2 ⟨rfl, h2, f2⟩
      clear h1
      go_wp2
      refine bodyPost_ret (results_tmp3 rfl _ _ _) rfl ?_
      exact ⟨none, 0, rfl, RS.nil _ _, (hal.to _).trans f2, h2.kn⟩
    · have k1 : (kd == 1) = false := by simpa using e1
      by_cases e2 : kd = 2
      · subst e2
        go_enter Try.func12, Try.ntmps12
        go_wp2_with fail
        refine (release_sb h1).mono ?_
        rintro e w2 ⟨rfl, h2, f2⟩
        clear h1
        go_wp2
        refine bodyPost_ret (results_tmp3 rfl _ _ _) rfl ?_
        exact ⟨none, 0, rfl, RS.nil _ _, (hal.to _).trans f2, h2.kn⟩
      · have k2 : (kd == 2) = false := by simpa using e2
        have ey : sDo s ⟨kd, it, od⟩ = (sRemove s od, 0, 0, held s od) := by simp [sDo, e0, e1, e2]
        rw [ey]
        clear ey e0 e1 e2
        go_enter Try.func12, Try.ntmps12
        go_wp2_with fail
        refine (remove_sb h1).mono ?_
        rintro e w2 ⟨A, cap, rfl, hr, f2, h2⟩
        clear h1
        go_wp2
        refine bodyPost_ret (results_tmp3 rfl _ _ _) rfl ?_
        exact ⟨A, cap, rfl, hr, (hal.to _).trans f2, h2⟩

end Go.Proofs.Ytholaaojcpifnaa
