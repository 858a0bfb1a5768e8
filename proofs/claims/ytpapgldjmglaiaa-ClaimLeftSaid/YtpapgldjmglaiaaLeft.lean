/-
  ClaimLeft returns true for every account and every list of calls.
-/
import Derived.Test.YtpapgldjmglaiaaWalkf
namespace Go.Proofs.Ytpapgldjmglaiaa.claimLeft
open Go.ChangeShapes Go.WideShapes Go.ChangeAt Go.RowKit

/-- What was credited is what was claimed, what is left and what has expired. -/
theorem balance {a : Ac} {K : Nat} (h : a.Ok K) : a.cr = a.cl + a.left (max 0 a.T) + a.expired (max 0 a.T) := by
  have t1 := h.t1
  have t2 := h.t2
  have p1 := h.p1
  have hP : Ac.isP (max 0 a.T) = true := by simp [Ac.isP]; omega
  unfold Ac.left Ac.expired
  rw [if_pos hP, if_pos hP]
  have tot := h.tot
  by_cases hx : 0 ≤ max 0 a.T - a.P + 1
  · have e1 := rs_all h.sp t1 (A := 0) (M := (max 0 a.T - a.P + 1).toNat + a.P.toNat) (by omega) (by omega)
    rw [rs_split, show (0 : Int) + ((max 0 a.T - a.P + 1).toNat : Int) = max 0 a.T - a.P + 1 by omega] at e1
    omega
  · have e1 := rs_all h.sp t1 (A := max 0 a.T - a.P + 1) (M := a.P.toNat) (by omega) (by omega)
    rw [show (max 0 a.T - a.P + 1).toNat = 0 by omega]
    simp only [rs]
    omega

/-- What holds at the head of each round. -/
def Rel (w : World) (g r len : Nat) (lat i : Value) (wr : World) : Prop :=
  ∃ (k : Nat) (a : Ac), k ≤ len ∧ i = .int .i64 k ∧ a.Ok k ∧ lat = .int .i64 (max 0 a.T) ∧ IsA wr g r a ∧ Below w.heap.size w wr

set_option maxRecDepth 100000 in
set_option maxHeartbeats 2000000 in
theorem walk (F P : Int) (A : Option Addr) (len cap : Nat) (xs : List (Bool × Int × Int)) (w : World) (hx : IsSteps w A len xs) :
    Calls Try.prog 4 #[.agg #[.int .i64 F, .int .i64 P], .slice A len cap] w fun e w' => e = .returned (.bool true) ∧ Below w.heap.size w w' := by
  have hml := hx.2.1
  unfold maxLen at hml
  by_cases h : F < 0 ∨ F > 1000 ∨ P < 1 ∨ P > 24
  · clear hx
    go_enter Try.func4, Try.ntmps4
    go_wp2_with fail
    refine (new_bad F P _ h).mono ?_
    rintro e w1 ⟨rfl, rfl⟩
    go_wp2_with fail
    refine (awake_any _).mono ?_
    rintro e w2 ⟨rfl, hb2⟩
    go_wp2
    go_ret
    exact ⟨rfl, ((Below.refl _ _).alloc (Nat.le_refl _) _).trans (hb2.mono (by simp))⟩
  · have f1 : 0 ≤ F := by omega
    have f2 : F ≤ 1000 := by omega
    have p1 : 1 ≤ P := by omega
    have p2 : P ≤ 24 := by omega
    clear h
    by_cases hlen : len > 100
    · clear hx
      go_enter Try.func4, Try.ntmps4
      go_wp2_with fail
      refine (new_ok F P _ f1 f2 p1 p2).mono ?_
      rintro e w1 ⟨rfl, hA, hb⟩
      have hsz := hb.size
      rw [World.size_alloc] at hb hsz
      go_wp2_with fail
      refine (awake_any _).mono ?_
      rintro e w2 ⟨rfl, hb2⟩
      go_wp2
      go_ret
      exact ⟨rfl, (((Below.refl _ _).alloc (Nat.le_refl _) _).trans (hb.mono (by omega))).trans (hb2.mono (by omega))⟩
    · have HX := Lib.hid hx
      clear hx
      go_enter Try.func4, Try.ntmps4
      go_wp2_with fail
      refine (new_ok F P _ f1 f2 p1 p2).mono ?_
      rintro e w1 ⟨rfl, hA, hb⟩
      rw [World.size_alloc] at hA hb
      have hR : Rel w (w.heap.size + 1 + 1) (w.heap.size + 1) len (.int .i64 0) (.int .i64 0) w1 :=
        ⟨0, _, by omega, rfl, ok_new f1 f2 p1 p2, rfl, hA, ((Below.refl _ _).alloc (Nat.le_refl _) _).trans (hb.mono (by omega))⟩
      clear hA hb
      go_wp2
      go_loopw [7, 8] (fun l i wr => Rel w (w.heap.size + 1 + 1) (w.heap.size + 1) len l i wr) (fun _ i _ => len - (intOf i).toNat)
      case atStart => exact hR
      case round =>
        obtain ⟨k, a, hk, rfl, ok, rfl, hA, hb⟩ := hrel
        clear hR
        by_cases hlt : k < len
        · obtain ⟨x, hxk⟩ : ∃ x, xs[k]? = some x := ⟨xs[k]'(by rw [HX.out.1]; exact hlt), List.getElem?_eq_getElem _⟩
          obtain ⟨b, o, rfl, hbl, hc0, hc1, hc2, hr1, hr2⟩ := HX.out.2.2 k x hxk
          obtain ⟨c, per, vol⟩ := x
          have e0 := hb.cell (p := ⟨b, o + k * 3, none⟩) hbl
          have e1 := hb.cell (p := ⟨b, o + k * 3 + 1, none⟩) hbl
          have e2 := hb.cell (p := ⟨b, o + k * 3 + 2, none⟩) hbl
          rw [hc0] at e0
          rw [hc1] at e1
          rw [hc2] at e2
          simp only at e0 e1 e2 hr1 hr2
          clear hc0 hc1 hc2 hxk
          have hwr := hb.size
          go_wp2_with fail
          refine (do_any _ _ k a c per vol wr hA ok).mono ?_
          rintro e w3 ⟨rfl, hA3, hf3⟩
          have hb3 := hb.trans (hf3.below hb.size (fun i _ h => by omega))
          have ok3 := Ac.step_ok ok (by omega) c per vol
          have E0 := hf3.block b (by omega) (by omega)
          have f1' : w3.cell? ⟨b, o + k * 3 + 1, none⟩ = some (.int .i64 per) := by rw [← e1]; unfold World.cell?; rw [E0]
          have hcs := Ac.step_cases a c per vol
          have hbal := balance ok3
          have hT1 := ok.t1
          have hT2 := ok3.t1
          have hc0 := ok3.c0
          have hcr : (a.step c per vol).1.cl ≤ (a.step c per vol).1.cr := by have := ok3.bd 0 ((a.step c per vol).1.T + 1).toNat; have := ok3.tot; omega
          have hlb := ok3.bd ((max 0 (a.step c per vol).1.T) - (a.step c per vol).1.P + 1) (a.step c per vol).1.P.toNat
          have hbd1 := ok3.c1
          clear e0 e1 e2 E0 hf3 hA hb
          generalize a.step c per vol = y at hA3 hcs ok3 hbal hc0 hcr hbd1 hT2 ⊢
          obtain ⟨a', code⟩ := y
          simp only at hA3 hcs ok3 hbal hc0 hcr hbd1 hT2
          have L0 : 0 ≤ a'.left (max 0 a'.T) ∧ 0 ≤ a'.expired (max 0 a'.T) := by
            unfold Ac.left Ac.expired
            refine ⟨?_, ?_⟩ <;> split
            · exact rs_nonneg ok3.nn _ _
            · omega
            · exact rs_nonneg ok3.nn _ _
            · omega
          obtain ⟨L1, L2⟩ := L0
          have HBal := Lib.hid hbal
          clear hlb
          have q1 : a'.cr ≤ 225179981368524800 := by omega
          have L3 : a'.left (max 0 a'.T) ≤ 225179981368524800 := by omega
          have L4 : a'.expired (max 0 a'.T) ≤ 225179981368524800 := by omega
          have L5 : a'.cl + a'.left (max 0 a'.T) ≤ 225179981368524800 := by omega
          have L6 : a'.cl + a'.left (max 0 a'.T) + a'.expired (max 0 a'.T) ≤ 225179981368524800 := by omega
          clear hbal
          rcases hcs with ⟨hc, hae⟩ | ⟨hc, hT, hck⟩
          · have k1 : (code == 0) = false := by simpa using hc
            have hlat : Hid (max 0 a.T = max 0 a'.T) := by show _ = _; rw [hae]
            clear hc hae
            rw [hlat.out]
            go_wp2_with fail
            refine (totals_to hA3 rfl rfl).mono ?_
            rintro e w4 ⟨rfl, hA4, hs4⟩
            have hb4 := hb3.trans (hs4.below.mono hb3.size)
            clear hA3 hb3 hs4
            go_wp2_with fail
            refine (left_to hA4 ok3 rfl).mono ?_
            rintro e w5 ⟨rfl, hA5, hs5⟩
            have hb5 := hb4.trans (hs5.below.mono hb4.size)
            clear hA4 hb4 hs5
            go_wp2_with fail
            refine (expired_to hA5 ok3 rfl).mono ?_
            rintro e w6 ⟨rfl, hA6, hs6⟩
            have hb6 := hb5.trans (hs6.below.mono hb5.size)
            clear hA5 hb5 hs6
            have HE : Hid (Rel w (w.heap.size + 1 + 1) (w.heap.size + 1) len (.int .i64 (max 0 a'.T)) (.int .i64 ((k : Int) + 1)) w6) := ⟨k + 1, a', by omega, by simp, ok3, rfl, hA6, hb6⟩
            have kk : (a'.cr != a'.cl + a'.left (max 0 a'.T) + a'.expired (max 0 a'.T)) = false := by simpa using HBal.out
            generalize max 0 a'.T = M at *
            go_wp2
            go_roundw
            case rel => exact HE.out
            case measure => simp [intOf]; omega
          · subst hc
            have hper := check_zero (a := a) (per := per) (vol := vol) (by simpa using hck)
            have hlat : Hid (per = max 0 a'.T) := by show _ = _; omega
            clear hT hck
            go_wp2_with fail
            rw [hlat.out]
            refine (totals_to hA3 rfl rfl).mono ?_
            rintro e w4 ⟨rfl, hA4, hs4⟩
            have hb4 := hb3.trans (hs4.below.mono hb3.size)
            clear hA3 hb3 hs4
            go_wp2_with fail
            refine (left_to hA4 ok3 rfl).mono ?_
            rintro e w5 ⟨rfl, hA5, hs5⟩
            have hb5 := hb4.trans (hs5.below.mono hb4.size)
            clear hA4 hb4 hs5
            go_wp2_with fail
            refine (expired_to hA5 ok3 rfl).mono ?_
            rintro e w6 ⟨rfl, hA6, hs6⟩
            have hb6 := hb5.trans (hs6.below.mono hb5.size)
            clear hA5 hb5 hs6
            have HE : Hid (Rel w (w.heap.size + 1 + 1) (w.heap.size + 1) len (.int .i64 (max 0 a'.T)) (.int .i64 ((k : Int) + 1)) w6) := ⟨k + 1, a', by omega, by simp, ok3, rfl, hA6, hb6⟩
            have kk : (a'.cr != a'.cl + a'.left (max 0 a'.T) + a'.expired (max 0 a'.T)) = false := by simpa using HBal.out
            generalize max 0 a'.T = M at *
            go_wp2
            go_roundw
            case rel => exact HE.out
            case measure => simp [intOf]; omega
        · go_wp2_with fail
          refine (awake_any _).mono ?_
          rintro e w3 ⟨rfl, hb3⟩
          go_wp2
          go_ret
          exact ⟨rfl, hb.trans (hb3.mono hb.size)⟩

theorem own : ownKnob Try.prog.godebug = none := by kernel_rfl
theorem laidOut : laidOutB Try.prog = true := by kernel_rfl

set_option maxRecDepth 100000 in
theorem lifted (os : Os) (started : os.Started) (H : Type) (enc : TypeId × Value → H) :
    ReturnsInHanded {} Try.checked os 4 .any (Rows.claimLeftSpec.pre6 enc Try.prog Try.f4 Rows.claimLeftRow.domain false) (Rows.claimLeftSpec.post enc Try.prog Try.f4 false true false false) := by
  refine returnsInHanded_of_change (C := Try.checked) own started (by kernel_rfl) Try.func4
    (ChangeSpec.witness6 (enc := enc) (C := Try.checked) false ⟨#[], #[.agg #[.int .i64 0, .int .i64 0], .slice none 0 0], []⟩ 8 (by kernel_rfl) (by kernel_rfl) (by kernel_rfl) (by kernel_rfl)) ?_
  intro W base args ds gs before hval0 hW hcnd _
  have hval : ∀ (j : Nat) t v, Try.f4.params[j]? = some t → args[j]? = some v → Value.okWide Try.prog W .any base t v := hval0
  have hW' := hW
  obtain ⟨p, q, hA0, hV, rfl, hfz, hnd⟩ := hW
  have hA : DataW.TrodAll enc Try.prog W 0 (fun _ => true) true Try.f4.params.toList args.toList ds p := hA0
  rw [Try.params4] at hA hval
  obtain ⟨v0, vs0, d0, ds0, p0, q0, hargs, rfl, rfl, h0, r0⟩ := trodAll_cons hA
  obtain ⟨v1, vs1, d1, ds1, p1, q1, rfl, rfl, rfl, h1, r1⟩ := trodAll_cons r0
  obtain ⟨rfl, rfl, rfl⟩ := trodAll_nil r1
  obtain rfl : args = #[v0, v1] := by cases args; simp_all
  obtain ⟨rfl, rfl⟩ := trodVars_none hV
  have k0 := h0
  have lt0 : ∀ x ∈ p0, x.block < W.heap.size := by obtain ⟨m, hm⟩ := k0; exact DataW.trod_lt m _ _ _ hm
  have ok0 := hval 0 40 v0 rfl rfl
  obtain ⟨x0, y0, rfl⟩ := open_pair ok0 h0
  have k1 := h1
  have lt1 : ∀ x ∈ p1, x.block < W.heap.size := by obtain ⟨m, hm⟩ := k1; exact DataW.trod_lt m _ _ _ hm
  have ok1 := hval 1 23 v1 rfl rfl
  obtain ⟨A1, len1, cap1, xs1, rfl, hx1⟩ := open_steps ok1 h1
  clear hA0 hval0
  refine (walk x0 y0 A1 len1 cap1 xs1 W hx1).mono fun e W' ⟨he, bel⟩ => ?_
  subst he
  exact ⟨_, rfl, _, _, _, [], _, [], hW', trodAll_mk1 (shut_bool Try.underlying4 _), (trodAll_cons_mk (Below.trod laidOut (by kernel_rfl) (of_decide_eq_true (by kernel_rfl)) k0 bel lt0) (trodAll_cons_mk (Below.trod laidOut (by kernel_rfl) (of_decide_eq_true (by kernel_rfl)) k1 bel lt1) trodAll_mk0)), rfl, bel.frame _, fun h => by cases h⟩

theorem over : Rows.claimLeftRow.holds Try.pinned (OpenSpec.ofChange Rows.claimLeftSpec) :=
  OpenClaim.holds_of_wide 4 Try.f4 rfl rfl rfl rfl rfl rfl rfl ⟨rfl, rfl, rfl, rfl, rfl⟩ rfl rfl rfl rfl rfl (by kernel_rfl) Try.func4 (by kernel_rfl)
    (of_decide_eq_true (by kernel_rfl)) (by unfold Func.isWrapper; first | (rw [if_pos (by decide +kernel)]; kernel_rfl) | (rw [if_neg (by decide +kernel)]; exact ⟨rfl, rfl⟩))
    (fun os started H enc _ => lifted os started H enc)

theorem proved : Rows.ClaimLeftSaid := over
end Go.Proofs.Ytpapgldjmglaiaa.claimLeft
