/-
  BladeParts returns true for every limit and all pairs of areas.
-/
import Derived.Test.YtlbooffoebjllaaWalkf
import Derived.Test.YtlbooffoebjllaaArgs
namespace Go.Proofs.Ytlbooffoebjllaa.bladeParts
open Go.ChangeShapes Go.WideShapes Go.ChangeAt Go.RowKit

theorem open_pair {H : Type} {enc : TypeId × Value → H} {W : World} {b0 : Nat} {r : Reach} {base : Nat} {sp : Nat → Bool} {held : Bool} {v : Value} {d : DataW H} {p : List MemPlace} (hv : Value.okWide Try.prog W r b0 33 v)
    (h : DataW.Trod enc Try.prog W base sp held 33 v d p) : ∃ x y : Int, v = .agg #[.int .i64 x, .int .i64 y] := by
  obtain ⟨fuel, hf⟩ := h
  obtain ⟨xs, m, _, _, hl, hxl, hat⟩ := DataW.trod_array Try.underlying33 hf
  have hc : Try.prog.cellsOf 3 = 1 := by kernel_rfl
  have hc2 : Try.prog.cellsOf 33 = 2 := by kernel_rfl
  rw [hc] at hat
  simp only [Value.okWide, Try.underlying33] at hv
  obtain ⟨cs, rfl, h2, _⟩ := hv
  rw [hc2] at h2
  obtain ⟨l⟩ := cs
  match l, h2 with
  | [c0, c1], _ =>
    match xs, hxl with
    | [y0, y1], _ =>
      have t0 := hat 0 (by omega)
      have t1 := hat 1 (by omega)
      simp [Value.cells] at t0 t1
      obtain ⟨n0, hn0, _, _⟩ := DataW.trod_int Try.underlying3 t0
      obtain ⟨n1, hn1, _, _⟩ := DataW.trod_int Try.underlying3 t1
      simp at hn0 hn1
      exact ⟨n0, n1, by rw [hn0, hn1]⟩

set_option maxRecDepth 100000 in
set_option maxHeartbeats 4000000 in
theorem walk (n x y : Int) (w : World) :
    Calls Try.prog 4 #[.int .i64 n, .agg #[.int .i64 x, .int .i64 y]] w fun e w' => e = .returned (.bool true) ∧ Below w.heap.size w w' := by
  by_cases h : n < 1 ∨ n > 1000000000000
  · go_enter Try.func4, Try.ntmps4
    go_wp2_with fail
    refine (new_bad n _ h).mono ?_
    rintro e w1 ⟨rfl, rfl⟩
    go_wp2_with fail
    refine (new_bad n _ h).mono ?_
    rintro e w2 ⟨rfl, rfl⟩
    go_wp2
    go_quiet (fail)
    go_wp2_with fail
    refine (awake_any _).mono ?_
    rintro e w3 ⟨rfl, hb3⟩
    go_wp2
    go_ret
    exact ⟨rfl, (below_drewN ((Below.refl _ _).alloc (Nat.le_refl _) _) _).trans (hb3.mono (by simp))⟩
  · have h1 : 1 ≤ n := by omega
    have h2 : n ≤ 1000000000000 := by omega
    clear h
    by_cases cx : x < 0
    · go_enter Try.func4, Try.ntmps4
      go_wp2_with fail
      refine (new_ok n _ h1 h2).mono ?_
      rintro e w1 ⟨rfl, hB, hb, hsz⟩
      go_wp2_with fail
      refine (new_ok n w1 h1 h2).mono ?_
      rintro e w2 ⟨rfl, hB2, hb2, hsz2⟩
      rw [World.size_alloc] at hB hb hsz
      have hA := ((Blk.new w 33 #[.int .i64 x, .int .i64 y]).below hb (by omega)).below hb2 (by omega)
      have hB' : IsB w2 (w.heap.size + 1) ⟨n, 1, 0, 0⟩ := hB.blk.below hb2 hsz
      have a0 := hA.cell 0
      have a1 := hA.cell 1
      simp at a0 a1
      have bel2 : Below w.heap.size w w2 := (((Below.refl _ _).alloc (Nat.le_refl _) _).trans (hb.mono (by omega))).trans (hb2.mono (by omega))
      clear hA hB hb hb2
      go_wp2
      go_quiet (fail)
      go_wp2_with fail
      refine (awake_any _).mono ?_
      rintro e w3 ⟨rfl, hb3⟩
      go_wp2
      go_ret
      exact ⟨rfl, (below_drewN bel2 _).trans (hb3.mono (by simp; omega))⟩
    · have cx' : 0 ≤ x := by omega
      by_cases cy : y < 0
      · go_enter Try.func4, Try.ntmps4
        go_wp2_with fail
        refine (new_ok n _ h1 h2).mono ?_
        rintro e w1 ⟨rfl, hB, hb, hsz⟩
        go_wp2_with fail
        refine (new_ok n w1 h1 h2).mono ?_
        rintro e w2 ⟨rfl, hB2, hb2, hsz2⟩
        rw [World.size_alloc] at hB hb hsz
        have hA := ((Blk.new w 33 #[.int .i64 x, .int .i64 y]).below hb (by omega)).below hb2 (by omega)
        have hB' : IsB w2 (w.heap.size + 1) ⟨n, 1, 0, 0⟩ := hB.blk.below hb2 hsz
        have a0 := hA.cell 0
        have a1 := hA.cell 1
        simp at a0 a1
        have bel2 : Below w.heap.size w w2 := (((Below.refl _ _).alloc (Nat.le_refl _) _).trans (hb.mono (by omega))).trans (hb2.mono (by omega))
        clear hA hB hb hb2
        go_wp2
        go_quiet (fail)
        go_wp2_with fail
        refine (awake_any _).mono ?_
        rintro e w3 ⟨rfl, hb3⟩
        go_wp2
        go_ret
        exact ⟨rfl, (below_drewN bel2 _).trans (hb3.mono (by simp; omega))⟩
      · have cy' : 0 ≤ y := by omega
        by_cases dx : x > 5000000000
        · go_enter Try.func4, Try.ntmps4
          go_wp2_with fail
          refine (new_ok n _ h1 h2).mono ?_
          rintro e w1 ⟨rfl, hB, hb, hsz⟩
          go_wp2_with fail
          refine (new_ok n w1 h1 h2).mono ?_
          rintro e w2 ⟨rfl, hB2, hb2, hsz2⟩
          rw [World.size_alloc] at hB hb hsz
          have hA := ((Blk.new w 33 #[.int .i64 x, .int .i64 y]).below hb (by omega)).below hb2 (by omega)
          have hB' : IsB w2 (w.heap.size + 1) ⟨n, 1, 0, 0⟩ := hB.blk.below hb2 hsz
          have a0 := hA.cell 0
          have a1 := hA.cell 1
          simp at a0 a1
          have bel2 : Below w.heap.size w w2 := (((Below.refl _ _).alloc (Nat.le_refl _) _).trans (hb.mono (by omega))).trans (hb2.mono (by omega))
          clear hA hB hb hb2
          go_wp2
          go_quiet (fail)
          go_wp2_with fail
          refine (awake_any _).mono ?_
          rintro e w3 ⟨rfl, hb3⟩
          go_wp2
          go_ret
          exact ⟨rfl, (below_drewN bel2 _).trans (hb3.mono (by simp; omega))⟩
        · have dx' : x ≤ 5000000000 := by omega
          by_cases dy : y > 5000000000
          · go_enter Try.func4, Try.ntmps4
            go_wp2_with fail
            refine (new_ok n _ h1 h2).mono ?_
            rintro e w1 ⟨rfl, hB, hb, hsz⟩
            go_wp2_with fail
            refine (new_ok n w1 h1 h2).mono ?_
            rintro e w2 ⟨rfl, hB2, hb2, hsz2⟩
            rw [World.size_alloc] at hB hb hsz
            have hA := ((Blk.new w 33 #[.int .i64 x, .int .i64 y]).below hb (by omega)).below hb2 (by omega)
            have hB' : IsB w2 (w.heap.size + 1) ⟨n, 1, 0, 0⟩ := hB.blk.below hb2 hsz
            have a0 := hA.cell 0
            have a1 := hA.cell 1
            simp at a0 a1
            have bel2 : Below w.heap.size w w2 := (((Below.refl _ _).alloc (Nat.le_refl _) _).trans (hb.mono (by omega))).trans (hb2.mono (by omega))
            clear hA hB hb hb2
            go_wp2
            go_quiet (fail)
            go_wp2_with fail
            refine (awake_any _).mono ?_
            rintro e w3 ⟨rfl, hb3⟩
            go_wp2
            go_ret
            exact ⟨rfl, (below_drewN bel2 _).trans (hb3.mono (by simp; omega))⟩
          · have dy' : y ≤ 5000000000 := by omega
            clear cx cy dx dy
            go_enter Try.func4, Try.ntmps4
            go_wp2_with fail
            refine (new_ok n _ h1 h2).mono ?_
            rintro e w1 ⟨rfl, hB, hb, hsz⟩
            go_wp2_with fail
            refine (new_ok n w1 h1 h2).mono ?_
            rintro e w2 ⟨rfl, hB2, hb2, hsz2⟩
            rw [World.size_alloc] at hB hb hsz
            have hA := ((Blk.new w 33 #[.int .i64 x, .int .i64 y]).below hb (by omega)).below hb2 (by omega)
            have hB' : IsB w2 (w.heap.size + 1) ⟨n, 1, 0, 0⟩ := hB.blk.below hb2 hsz
            have a0 := hA.cell 0
            have a1 := hA.cell 1
            simp at a0 a1
            have bel2 : Below w.heap.size w w2 := (((Below.refl _ _).alloc (Nat.le_refl _) _).trans (hb.mono (by omega))).trans (hb2.mono (by omega))
            clear hA hB hb hb2
            go_wp2
            go_quiet (fail)
            have hBd : IsB (w2.drewN nq) (w.heap.size + 1) ⟨n, 1, 0, 0⟩ := hB'
            go_wp2_with fail
            refine (start_to (s' := ⟨n, 2, 0, 0⟩) (c := 0) hBd (ok0 n h1 h2) rfl).mono ?_
            rintro e w3 ⟨rfl, hB3, hf3⟩
            have hB23 : IsB w3 w1.heap.size ⟨n, 1, 0, 0⟩ := Blk.fr (w := w2.drewN nq) hB2 hf3 (by omega)
            have bel3 : Below w.heap.size w w3 := (below_drewN bel2 nq).trans (hf3.below (below_drewN bel2 nq).size (fun i _ h => by omega))
            clear hf3 hBd hB' hB2 bel2
            go_wp2_with fail
            refine (start_to (s' := ⟨n, 2, 0, 0⟩) (c := 0) hB23 (ok0 n h1 h2) rfl).mono ?_
            rintro e w4 ⟨rfl, hB24, hf4⟩
            have hB4 := hB3.fr hf4 (by omega)
            have bel4 := bel3.trans (hf4.below bel3.size (fun i _ h => by omega))
            clear hf4 hB3 hB23 bel3
            have ok2 : St.Ok ⟨n, 2, 0, 0⟩ := okc (by omega)
            by_cases c1 : n ≤ x
            · have e1 : St.cut ⟨n, 2, 0, 0⟩ x = (⟨n, 4, n, n⟩, n, 0) := by
                unfold St.cut
                rw [if_neg (by simp), if_neg (by omega)]
                simp only [Int.sub_zero, Int.zero_add, show min x n = n by omega, if_true]
              go_wp2_with fail
              refine (cut_to hB4 ok2 (by show (0 : Int) ≤ _; omega) e1).mono ?_
              rintro e w5 ⟨rfl, hB5, hf5⟩
              have bel5 := bel4.trans (hf5.below bel4.size (fun i _ h => by omega))
              clear e1
              go_wp2_with fail
              refine (state_any _ _ _ hB5).mono ?_
              rintro e w6 ⟨rfl, rfl⟩
              go_wp2_with fail
              refine (awake_any _).mono ?_
              rintro e w6 ⟨rfl, hb6⟩
              go_wp2
              go_ret
              exact ⟨rfl, bel5.trans (hb6.mono bel5.size)⟩
            · have c1' : x < n := by omega
              have e1 : Hid (St.cut ⟨n, 2, 0, 0⟩ x = (⟨n, 2, x, x⟩, x, 0)) := by
                show St.cut _ _ = _
                unfold St.cut
                rw [if_neg (by simp), if_neg (by omega)]
                simp only [Int.sub_zero, Int.zero_add, show min x n = x by omega, show ¬ x = n by omega, if_false]
              have ok5 : St.Ok ⟨n, 2, x, x⟩ := okc (by omega)
              clear c1
              go_wp2_with fail
              refine (cut_to hB4 ok2 (by show (0 : Int) ≤ _; omega) e1.out).mono ?_
              rintro e w5 ⟨rfl, hB5, hf5⟩
              have hB25 := hB24.fr hf5 (by omega)
              have bel5 := bel4.trans (hf5.below bel4.size (fun i _ h => by omega))
              clear hf5 hB24 hB4 bel4
              go_wp2_with fail
              refine (state_any _ _ _ hB5).mono ?_
              rintro e w6 ⟨rfl, rfl⟩
              by_cases c2 : n ≤ x + y
              · have e2 : Hid (St.cut ⟨n, 2, x, x⟩ y = (⟨n, 4, n, n⟩, n - x, 0)) := by
                  show St.cut _ _ = _
                  unfold St.cut
                  rw [if_neg (by simp), if_neg (by omega)]
                  simp only [show min y (n - x) = n - x by omega, show x + (n - x) = n by omega, if_true]
                have e3 : Hid (St.cut ⟨n, 2, 0, 0⟩ (x + y) = (⟨n, 4, n, n⟩, n, 0)) := by
                  show St.cut _ _ = _
                  unfold St.cut
                  rw [if_neg (by simp), if_neg (by omega)]
                  simp only [Int.sub_zero, Int.zero_add, show min (x + y) n = n by omega, if_true]
                have kk : (x + (n - x) == n) = true := by simp; omega
                go_wp2_with fail
                refine (cut_to hB5 ok5 (by show x ≤ _; omega) e2.out).mono ?_
                rintro e w7 ⟨rfl, hB7, hf7⟩
                have hB27 := hB25.fr hf7 (by omega)
                have bel7 := bel5.trans (hf7.below bel5.size (fun i _ h => by omega))
                clear hf7 hB25 hB5 bel5
                go_wp2_with fail
                refine (cut_to hB27 ok2 (by show (0 : Int) ≤ _; omega) e3.out).mono ?_
                rintro e w8 ⟨rfl, hB28, hf8⟩
                have hB8 := hB7.fr hf8 (by omega)
                have bel8 := bel7.trans (hf8.below bel7.size (fun i _ h => by omega))
                clear hf8 hB27 hB7 bel7
                go_wp2_with fail
                refine (state_any _ _ _ hB8).mono ?_
                rintro e w9 ⟨rfl, rfl⟩
                go_wp2_with fail
                refine (state_any _ _ _ hB28).mono ?_
                rintro e w9 ⟨rfl, rfl⟩
                go_wp2_with fail
                refine (wear_any _ _ _ hB8).mono ?_
                rintro e w9 ⟨rfl, rfl⟩
                go_wp2_with fail
                refine (wear_any _ _ _ hB28).mono ?_
                rintro e w9 ⟨rfl, rfl⟩
                go_wp2_with fail
                refine (awake_any _).mono ?_
                rintro e w9 ⟨rfl, hb9⟩
                go_wp2
                go_ret
                exact ⟨rfl, bel8.trans (hb9.mono bel8.size)⟩
              · have e2 : Hid (St.cut ⟨n, 2, x, x⟩ y = (⟨n, 2, x + y, x + y⟩, y, 0)) := by
                  show St.cut _ _ = _
                  unfold St.cut
                  rw [if_neg (by simp), if_neg (by omega)]
                  simp only [show min y (n - x) = y by omega, show ¬ x + y = n by omega, if_false]
                have e3 : Hid (St.cut ⟨n, 2, 0, 0⟩ (x + y) = (⟨n, 2, x + y, x + y⟩, x + y, 0)) := by
                  show St.cut _ _ = _
                  unfold St.cut
                  rw [if_neg (by simp), if_neg (by omega)]
                  simp only [Int.sub_zero, Int.zero_add, show min (x + y) n = x + y by omega, show ¬ x + y = n by omega, if_false]
                go_wp2_with fail
                refine (cut_to hB5 ok5 (by show x ≤ _; omega) e2.out).mono ?_
                rintro e w7 ⟨rfl, hB7, hf7⟩
                have hB27 := hB25.fr hf7 (by omega)
                have bel7 := bel5.trans (hf7.below bel5.size (fun i _ h => by omega))
                clear hf7 hB25 hB5 bel5
                go_wp2_with fail
                refine (cut_to hB27 ok2 (by show (0 : Int) ≤ _; omega) e3.out).mono ?_
                rintro e w8 ⟨rfl, hB28, hf8⟩
                have hB8 := hB7.fr hf8 (by omega)
                have bel8 := bel7.trans (hf8.below bel7.size (fun i _ h => by omega))
                clear hf8 hB27 hB7 bel7
                go_wp2_with fail
                refine (state_any _ _ _ hB8).mono ?_
                rintro e w9 ⟨rfl, rfl⟩
                go_wp2_with fail
                refine (state_any _ _ _ hB28).mono ?_
                rintro e w9 ⟨rfl, rfl⟩
                go_wp2_with fail
                refine (wear_any _ _ _ hB8).mono ?_
                rintro e w9 ⟨rfl, rfl⟩
                go_wp2_with fail
                refine (wear_any _ _ _ hB28).mono ?_
                rintro e w9 ⟨rfl, rfl⟩
                go_wp2_with fail
                refine (awake_any _).mono ?_
                rintro e w9 ⟨rfl, hb9⟩
                go_wp2
                go_ret
                exact ⟨rfl, bel8.trans (hb9.mono bel8.size)⟩

theorem own : ownKnob Try.prog.godebug = none := by kernel_rfl
theorem laidOut : laidOutB Try.prog = true := by kernel_rfl

set_option maxRecDepth 100000 in
theorem lifted (os : Os) (started : os.Started) (H : Type) (enc : TypeId × Value → H) :
    ReturnsInHanded {} Try.checked os 4 .any (Rows.bladePartsSpec.pre6 enc Try.prog Try.f4 Rows.bladePartsRow.domain false) (Rows.bladePartsSpec.post enc Try.prog Try.f4 false true false false) := by
  refine returnsInHanded_of_change (C := Try.checked) own started (by kernel_rfl) Try.func4
    (ChangeSpec.witness6 (enc := enc) (C := Try.checked) false ⟨#[], #[.int .i64 0, .agg #[.int .i64 0, .int .i64 0]], []⟩ 8 (by kernel_rfl) (by kernel_rfl) (by kernel_rfl) (by kernel_rfl)) ?_
  intro W base args ds gs before hval0 hW hcnd _
  have hval : ∀ (j : Nat) t v, Try.f4.params[j]? = some t → args[j]? = some v → Value.okWide Try.prog W .any base t v := hval0
  have hW' := hW
  obtain ⟨p, q, hA0, hV, rfl, hfz, hnd⟩ := hW
  have hA : DataW.TrodAll enc Try.prog W 0 (fun _ => true) true Try.f4.params.toList args.toList ds p := hA0
  rw [Try.params4] at hA hval
  obtain ⟨v0, vs0, d0, ds0, p0, q0, hargs, rfl, rfl, h0, r0⟩ := trodAll_cons hA
  obtain ⟨v1, vs1, d1, ds1, p1, q1, rfl, rfl, rfl, h1, r1⟩ := trodAll_cons r0
  obtain ⟨rfl, rfl, rfl⟩ := trodAll_nil r1
  obtain rfl : args = #[v0, v1] := by cases args; simp_all
  obtain ⟨rfl, rfl⟩ := trodVars_none hV
  have k0 := h0
  have lt0 : ∀ x ∈ p0, x.block < W.heap.size := by obtain ⟨m, hm⟩ := k0; exact DataW.trod_lt m _ _ _ hm
  have ok0 := hval 0 3 v0 rfl rfl
  obtain ⟨a0, rfl, _, _, w0⟩ := open_int Try.underlying3 ok0 h0
  have k1 := h1
  have lt1 : ∀ x ∈ p1, x.block < W.heap.size := by obtain ⟨m, hm⟩ := k1; exact DataW.trod_lt m _ _ _ hm
  have ok1 := hval 1 33 v1 rfl rfl
  obtain ⟨x1, y1, rfl⟩ := open_pair ok1 h1
  clear hA0 hval0
  refine (walk a0 x1 y1 W).mono fun e W' ⟨he, bel⟩ => ?_
  subst he
  exact ⟨_, rfl, _, _, _, [], _, [], hW', trodAll_mk1 (shut_bool Try.underlying4 _), (trodAll_cons_mk (Below.trod laidOut (by kernel_rfl) (of_decide_eq_true (by kernel_rfl)) k0 bel lt0) (trodAll_cons_mk (Below.trod laidOut (by kernel_rfl) (of_decide_eq_true (by kernel_rfl)) k1 bel lt1) trodAll_mk0)), rfl, bel.frame _, fun h => by cases h⟩

theorem over : Rows.bladePartsRow.holds Try.pinned (OpenSpec.ofChange Rows.bladePartsSpec) :=
  OpenClaim.holds_of_wide 4 Try.f4 rfl rfl rfl rfl rfl rfl rfl ⟨rfl, rfl, rfl, rfl, rfl⟩ rfl rfl rfl rfl rfl (by kernel_rfl) Try.func4 (by kernel_rfl)
    (of_decide_eq_true (by kernel_rfl)) (by unfold Func.isWrapper; first | (rw [if_pos (by decide +kernel)]; kernel_rfl) | (rw [if_neg (by decide +kernel)]; exact ⟨rfl, rfl⟩))
    (fun os started H enc _ => lifted os started H enc)

theorem proved : Rows.BladePartsSaid := over
end Go.Proofs.Ytlbooffoebjllaa.bladeParts
