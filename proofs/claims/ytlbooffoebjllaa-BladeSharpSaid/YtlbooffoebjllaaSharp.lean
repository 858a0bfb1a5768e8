/-
  BladeSharp returns true for every limit and all lists of calls before and behind a sharpening.
-/
import Derived.Test.YtlbooffoebjllaaWalkg
import Derived.Test.YtlbooffoebjllaaArgs
import Derived.Deep.LoopGhost
namespace Go.Proofs.Ytlbooffoebjllaa.bladeSharp
open Go.ChangeShapes Go.WideShapes Go.ChangeAt Go.RowKit

/-- What was cut in all before does not matter. -/
theorem step_shift (L S W N M op a : Int) : (St.mk L S W (M + N)).step op a = (⟨((St.mk L S W N).step op a).1.L, ((St.mk L S W N).step op a).1.S, ((St.mk L S W N).step op a).1.W, M + ((St.mk L S W N).step op a).1.N⟩, ((St.mk L S W N).step op a).2) := by
  unfold St.step St.start St.cut St.stop St.sharpen
  (repeat' split) <;> simp_all <;> omega

theorem do_to {g : Nat} {s s' : St} {m c op a : Int} {w : World} (h : IsB w g s) (hs : s.Ok) (hN : s.N ≤ 1000000000000000) (e : s.step op a = (s', m, c)) :
    Calls Try.prog 17 #[.pointer (some ⟨g, 0, none⟩), .agg #[.int .i64 op, .int .i64 a]] w fun e w' => e = .returned (.tuple #[.int .i64 m, .int .i64 c]) ∧ IsB w' g s' ∧ Fr (fun i => i = g) w w' :=
  (do_any g s op a w h hs hN).mono fun _ _ ⟨_, _, he, hm, hn, hB, hf⟩ => by rw [e] at hm hn hB; subst hn; subst hm; exact ⟨he, hB, hf⟩

theorem stop_sharpen (s : St) (_hs : s.Ok) : ∃ c, s.stop = (⟨s.L, s.stop.1.S, s.W, s.N⟩, c) ∧ (St.mk s.L s.stop.1.S s.W s.N).sharpen = (⟨s.L, 1, 0, s.N⟩, 0) := by
  unfold St.stop
  split
  · exact ⟨0, by simp, by simp [St.sharpen]⟩
  · exact ⟨14, by simp, by rename_i h; simp [St.sharpen, h]⟩

/-- What holds at the head of each round of the first loop. -/
def Rel (w : World) (g1 g2 len : Nat) (n : Int) (i : Value) (wr : World) : Prop :=
  ∃ (k : Nat) (s : St), k ≤ len ∧ i = .int .i64 k ∧ s.Ok ∧ s.N ≤ 10000000000 * k ∧ s.L = n ∧ IsB wr g1 s ∧ IsB wr g2 ⟨n, 1, 0, 0⟩ ∧ Below w.heap.size w wr

theorem rel_next {w wr w3 : World} {g1 g2 len k : Nat} {s : St} {n op a : Int} (hne : g2 ≠ g1) (hg : w.heap.size ≤ g1) (hlt : k < len) (hs : s.Ok) (hN : s.N ≤ 10000000000 * k) (hL : s.L = n)
    (hB : IsB w3 g1 (s.step op a).1) (hB2 : IsB wr g2 ⟨n, 1, 0, 0⟩) (hf : Fr (fun i => i = g1) wr w3) (hb : Below w.heap.size w wr) : Rel w g1 g2 len n (.int .i64 ((k : Int) + 1)) w3 := by
  have hok := St.step_ok hs op a
  have hNs := St.step_N hs op a
  have hL' : (s.step op a).1.L = s.L := by
    unfold St.step St.start St.cut St.stop St.sharpen
    (repeat' split) <;> rfl
  exact ⟨k + 1, _, by omega, by simp, hok, by omega, by omega, hB, hB2.fr hf hne, hb.trans (hf.below hb.size (fun i _ h => by omega))⟩

/-- What holds at the head of each round of the second loop. -/
def Rel2 (w : World) (g1 g2 len : Nat) (M : Int) (i : Value) (wr : World) : Prop :=
  ∃ (k : Nat) (L S W N : Int), k ≤ len ∧ i = .int .i64 k ∧ St.Ok ⟨L, S, W, N⟩ ∧ N ≤ 10000000000 * k ∧ IsB wr g1 ⟨L, S, W, M + N⟩ ∧ IsB wr g2 ⟨L, S, W, N⟩ ∧ Below w.heap.size w wr

set_option maxRecDepth 100000 in
set_option maxHeartbeats 4000000 in
theorem walk (n : Int) (A : Option Addr) (len cap : Nat) (xs : List (Int × Int)) (A2 : Option Addr) (len2 cap2 : Nat) (xs2 : List (Int × Int)) (w : World) (hx : IsSteps w A len xs) (hx2 : IsSteps w A2 len2 xs2) :
    Calls Try.prog 7 #[.int .i64 n, .slice A len cap, .slice A2 len2 cap2] w fun e w' => e = .returned (.bool true) ∧ Below w.heap.size w w' := by
  have hml := hx.2.1
  have hml2 := hx2.2.1
  unfold maxLen at hml hml2
  by_cases hlen : len > 100
  · clear hx hx2
    by_cases h : n < 1 ∨ n > 1000000000000
    · go_enter Try.func7, Try.ntmps7
      go_wp2_with fail
      refine (new_bad n w h).mono ?_
      rintro e w1 ⟨rfl, rfl⟩
      go_wp2_with fail
      refine (new_bad n w h).mono ?_
      rintro e w2 ⟨rfl, rfl⟩
      go_wp2_with fail
      refine (awake_any _).mono ?_
      rintro e w3 ⟨rfl, hb3⟩
      go_wp2
      go_ret
      exact ⟨rfl, hb3⟩
    · have h1 : 1 ≤ n := by omega
      have h2 : n ≤ 1000000000000 := by omega
      clear h
      go_enter Try.func7, Try.ntmps7
      go_wp2_with fail
      refine (new_ok n w h1 h2).mono ?_
      rintro e w1 ⟨rfl, hB, hb, hsz⟩
      go_wp2_with fail
      refine (new_ok n w1 h1 h2).mono ?_
      rintro e w2 ⟨rfl, hB2, hb2, hsz2⟩
      go_wp2_with fail
      refine (awake_any _).mono ?_
      rintro e w3 ⟨rfl, hb3⟩
      go_wp2
      go_ret
      exact ⟨rfl, (hb.trans (hb2.mono (by omega))).trans (hb3.mono (by omega))⟩
  · by_cases hlen2 : len2 > 100
    · clear hx hx2
      by_cases h : n < 1 ∨ n > 1000000000000
      · go_enter Try.func7, Try.ntmps7
        go_wp2_with fail
        refine (new_bad n w h).mono ?_
        rintro e w1 ⟨rfl, rfl⟩
        go_wp2_with fail
        refine (new_bad n w h).mono ?_
        rintro e w2 ⟨rfl, rfl⟩
        go_wp2_with fail
        refine (awake_any _).mono ?_
        rintro e w3 ⟨rfl, hb3⟩
        go_wp2
        go_ret
        exact ⟨rfl, hb3⟩
      · have h1 : 1 ≤ n := by omega
        have h2 : n ≤ 1000000000000 := by omega
        clear h
        go_enter Try.func7, Try.ntmps7
        go_wp2_with fail
        refine (new_ok n w h1 h2).mono ?_
        rintro e w1 ⟨rfl, hB, hb, hsz⟩
        go_wp2_with fail
        refine (new_ok n w1 h1 h2).mono ?_
        rintro e w2 ⟨rfl, hB2, hb2, hsz2⟩
        go_wp2_with fail
        refine (awake_any _).mono ?_
        rintro e w3 ⟨rfl, hb3⟩
        go_wp2
        go_ret
        exact ⟨rfl, (hb.trans (hb2.mono (by omega))).trans (hb3.mono (by omega))⟩
    · by_cases h : n < 1 ∨ n > 1000000000000
      · clear hx hx2
        go_enter Try.func7, Try.ntmps7
        go_wp2_with fail
        refine (new_bad n w h).mono ?_
        rintro e w1 ⟨rfl, rfl⟩
        go_wp2_with fail
        refine (new_bad n w h).mono ?_
        rintro e w2 ⟨rfl, rfl⟩
        go_wp2_with fail
        refine (awake_any _).mono ?_
        rintro e w3 ⟨rfl, hb3⟩
        go_wp2
        go_ret
        exact ⟨rfl, hb3⟩
      · have h1 : 1 ≤ n := by omega
        have h2 : n ≤ 1000000000000 := by omega
        clear h
        have HX := Lib.hid hx
        have HX2 := Lib.hid hx2
        clear hx hx2
        go_enter Try.func7, Try.ntmps7
        go_wp2_with fail
        refine (new_ok n w h1 h2).mono ?_
        rintro e w1 ⟨rfl, hB, hb, hsz⟩
        go_wp2_with fail
        refine (new_ok n w1 h1 h2).mono ?_
        rintro e w2 ⟨rfl, hB2, hb2, hsz2⟩
        have hR : Rel w w.heap.size w1.heap.size len n (.int .i64 0) w2 := ⟨0, ⟨n, 1, 0, 0⟩, by omega, rfl, ok0 n h1 h2, by simp, rfl, hB.blk.below hb2 hsz, hB2, hb.trans (hb2.mono (by omega))⟩
        clear hB hb hB2 hb2 hsz2
        go_wp2
        go_loopw [11] (fun i wr => Rel w w.heap.size w1.heap.size len n i wr) (fun i _ => len - (intOf i).toNat)
        case atStart => exact hR
        case round =>
          obtain ⟨k, s, hk, rfl, hs, hN, hL, hB, hB2, hb⟩ := hrel
          have hN' : s.N ≤ 1000000000000000 := by omega
          by_cases hlt : k < len
          · obtain ⟨x, hxk⟩ : ∃ x, xs[k]? = some x := ⟨xs[k]'(by rw [HX.out.1]; exact hlt), List.getElem?_eq_getElem _⟩
            obtain ⟨b, o, rfl, hbl, hc0, hc1, hrg⟩ := HX.out.2.2.2 k x hxk
            obtain ⟨op, ar⟩ := x
            have e0 := hb.cell (p := ⟨b, o + k * 2, none⟩) hbl
            have e1 := hb.cell (p := ⟨b, o + k * 2 + 1, none⟩) hbl
            rw [hc0] at e0
            rw [show o + k * 2 + 1 = o + (k * 2 + 1) from by omega, hc1] at e1
            rw [show o + (k * 2 + 1) = o + k * 2 + 1 from by omega] at e1
            have HL := Lib.hid hL
            clear hc0 hc1 hxk hL
            have hwr := hb.size
            go_wp2_with fail
            refine (do_any w.heap.size s op ar wr hB hs hN').mono ?_
            rintro e w3 ⟨m3, c3, rfl, hm3, hc3, hB3, hf3⟩
            have HE := Lib.hid (rel_next (by omega) (Nat.le_refl _) hlt hs hN HL.out hB3 hB2 hf3 hb)
            clear hm3 hc3 hB3 hf3 e0 e1
            go_wp2
            go_roundw
            case rel => exact HE.out
            case measure => simp [intOf]; omega
          · obtain ⟨cs, hst, hsh⟩ := stop_sharpen s hs
            have hok2 := St.stop_ok hs
            rw [hst] at hok2
            go_wp2_with fail
            refine (stop_to hB hs hst).mono ?_
            rintro e w3 ⟨rfl, hB3, hf3⟩
            have hB23 := hB2.fr hf3 (by omega)
            have hb3 := hb.trans (hf3.below hb.size (fun i _ h => by omega))
            have SH := Lib.hid hsh
            have HL := Lib.hid hL
            clear hst hsh hB hB2 hf3 hb hL
            go_wp2_with fail
            refine (sharpen_to hB3 hok2 SH.out).mono ?_
            rintro e w4 ⟨rfl, hB4, hf4⟩
            have hB24 := hB23.fr hf4 (by omega)
            have hb4 := hb3.trans (hf4.below hb3.size (fun i _ h => by omega))
            clear hB3 hB23 hb3 hf4
            go_wp2_with fail
            refine (sawn_any _ _ _ hB4).mono ?_
            rintro e w5 ⟨rfl, rfl⟩
            have hR2 : Rel2 w w.heap.size w1.heap.size len2 s.N (.int .i64 0) w4 := ⟨0, s.L, 1, 0, 0, by omega, rfl, ok0 s.L hs.l1 hs.l2, by simp, by simpa using hB4, by rw [HL.out]; exact hB24, hb4⟩
            have hM0 := hs.n1
            have hM1 : s.N ≤ 1000000000000 := by omega
            generalize s.N = M at hR2 hM0 hM1 ⊢
            clear hB4 hB24 hb4 hok2 hs SH HL
            go_wp2
            go_loopw [13] (fun i wr => Rel2 w w.heap.size w1.heap.size len2 M i wr) (fun i _ => len2 - (intOf i).toNat)
            case atStart => exact hR2
            case round =>
              obtain ⟨k2, L, S, W, N, hk2, rfl, hs, hN, hB, hB2, hb⟩ := hrel
              clear hR2
              have hN1 := hs.n1
              simp only at hN1
              have hok1 : St.Ok ⟨L, S, W, M + N⟩ := ⟨hs.l1, hs.l2, hs.s1, hs.w1, hs.w2, hs.d, by show 0 ≤ M + N; omega⟩
              by_cases hlt2 : k2 < len2
              · obtain ⟨x, hxk⟩ : ∃ x, xs2[k2]? = some x := ⟨xs2[k2]'(by rw [HX2.out.1]; exact hlt2), List.getElem?_eq_getElem _⟩
                obtain ⟨b, o, rfl, hbl, hc0, hc1, hrg⟩ := HX2.out.2.2.2 k2 x hxk
                obtain ⟨op, ar⟩ := x
                have e0 := hb.cell (p := ⟨b, o + k2 * 2, none⟩) hbl
                have e1 := hb.cell (p := ⟨b, o + k2 * 2 + 1, none⟩) hbl
                rw [hc0] at e0
                rw [show o + k2 * 2 + 1 = o + (k2 * 2 + 1) from by omega, hc1] at e1
                rw [show o + (k2 * 2 + 1) = o + k2 * 2 + 1 from by omega] at e1
                clear hc0 hc1 hxk
                have hsh := step_shift L S W N M op ar
                have hok' := St.step_ok hs op ar
                have hNs := St.step_N hs op ar
                simp only at hNs
                generalize hy : (St.mk L S W N).step op ar = y at hsh hok' hNs
                obtain ⟨⟨L', S', W', N'⟩, m, c⟩ := y
                simp only at hsh hNs
                have SH := Lib.hid hsh
                have SY := Lib.hid hy
                clear hsh hy
                have hwr := hb.size
                have hl2 := hB2.blk.lt
                go_wp2_with fail
                refine (do_to hB hok1 (by show M + N ≤ _; omega) SH.out).mono ?_
                rintro e w5 ⟨rfl, hB5, hf5⟩
                have hB25 := hB2.fr hf5 (by omega)
                have hb5 := hb.trans (hf5.below hb.size (fun i _ h => by omega))
                have E0 := hf5.block b (by omega) (by omega)
                have f0 : w5.cell? ⟨b, o + k2 * 2, none⟩ = some (.int .i64 op) := by rw [← e0]; unfold World.cell?; rw [E0]
                have f1 : w5.cell? ⟨b, o + k2 * 2 + 1, none⟩ = some (.int .i64 ar) := by rw [← e1]; unfold World.cell?; rw [E0]
                clear e0 e1 E0 hf5 hB hB2 hb hwr
                go_wp2_with fail
                refine (do_to hB25 hs (by show N ≤ _; omega) SY.out).mono ?_
                rintro e w6 ⟨rfl, hB26, hf6⟩
                have hB6 := hB5.fr hf6 (by omega)
                have hb6 := hb5.trans (hf6.below hb5.size (fun i _ h => by omega))
                have HE : Hid (Rel2 w w.heap.size w1.heap.size len2 M (.int .i64 ((k2 : Int) + 1)) w6) := ⟨k2 + 1, L', S', W', N', by omega, by simp, hok', by omega, hB6, hB26, hb6⟩
                have hn0 := hok'.n1
                simp only at hn0
                clear f0 f1 hf6 hB5 hB25 hb5 SH SY
                go_wp2_with fail
                refine (state_any _ _ _ hB6).mono ?_
                rintro e w' ⟨rfl, rfl⟩
                go_wp2_with fail
                refine (state_any _ _ _ hB26).mono ?_
                rintro e w' ⟨rfl, rfl⟩
                go_wp2_with fail
                refine (wear_any _ _ _ hB6).mono ?_
                rintro e w' ⟨rfl, rfl⟩
                go_wp2_with fail
                refine (wear_any _ _ _ hB26).mono ?_
                rintro e w' ⟨rfl, rfl⟩
                go_wp2_with fail
                refine (sawn_any _ _ _ hB6).mono ?_
                rintro e w' ⟨rfl, rfl⟩
                go_wp2_with fail
                refine (sawn_any _ _ _ hB26).mono ?_
                rintro e w' ⟨rfl, rfl⟩
                go_wp2
                go_roundw
                case rel => exact HE.out
                case measure => simp [intOf]; omega
              · go_wp2_with fail
                refine (awake_any _).mono ?_
                rintro e w3 ⟨rfl, hb3⟩
                go_wp2
                go_ret
                exact ⟨rfl, hb.trans (hb3.mono hb.size)⟩

theorem own : ownKnob Try.prog.godebug = none := by kernel_rfl
theorem laidOut : laidOutB Try.prog = true := by kernel_rfl

set_option maxRecDepth 100000 in
theorem lifted (os : Os) (started : os.Started) (H : Type) (enc : TypeId × Value → H) :
    ReturnsInHanded {} Try.checked os 7 .any (Rows.bladeSharpSpec.pre6 enc Try.prog Try.f7 Rows.bladeSharpRow.domain false) (Rows.bladeSharpSpec.post enc Try.prog Try.f7 false true false false) := by
  refine returnsInHanded_of_change (C := Try.checked) own started (by kernel_rfl) Try.func7
    (ChangeSpec.witness6 (enc := enc) (C := Try.checked) false ⟨#[], #[.int .i64 0, .slice none 0 0, .slice none 0 0], []⟩ 8 (by kernel_rfl) (by kernel_rfl) (by kernel_rfl) (by kernel_rfl)) ?_
  intro W base args ds gs before hval0 hW hcnd _
  have hval : ∀ (j : Nat) t v, Try.f7.params[j]? = some t → args[j]? = some v → Value.okWide Try.prog W .any base t v := hval0
  have hW' := hW
  obtain ⟨p, q, hA0, hV, rfl, hfz, hnd⟩ := hW
  have hA : DataW.TrodAll enc Try.prog W 0 (fun _ => true) true Try.f7.params.toList args.toList ds p := hA0
  rw [Try.params7] at hA hval
  obtain ⟨v0, vs0, d0, ds0, p0, q0, hargs, rfl, rfl, h0, r0⟩ := trodAll_cons hA
  obtain ⟨v1, vs1, d1, ds1, p1, q1, rfl, rfl, rfl, h1, r1⟩ := trodAll_cons r0
  obtain ⟨v2, vs2, d2, ds2, p2, q2, rfl, rfl, rfl, h2, r2⟩ := trodAll_cons r1
  obtain ⟨rfl, rfl, rfl⟩ := trodAll_nil r2
  obtain rfl : args = #[v0, v1, v2] := by cases args; simp_all
  obtain ⟨rfl, rfl⟩ := trodVars_none hV
  have k0 := h0
  have lt0 : ∀ x ∈ p0, x.block < W.heap.size := by obtain ⟨m, hm⟩ := k0; exact DataW.trod_lt m _ _ _ hm
  have ok0 := hval 0 3 v0 rfl rfl
  obtain ⟨a0, rfl, _, _, w0⟩ := open_int Try.underlying3 ok0 h0
  have k1 := h1
  have lt1 : ∀ x ∈ p1, x.block < W.heap.size := by obtain ⟨m, hm⟩ := k1; exact DataW.trod_lt m _ _ _ hm
  have ok1 := hval 1 39 v1 rfl rfl
  obtain ⟨A1, len1, cap1, xs1, rfl, hx1⟩ := open_steps ok1 h1
  have k2 := h2
  have lt2 : ∀ x ∈ p2, x.block < W.heap.size := by obtain ⟨m, hm⟩ := k2; exact DataW.trod_lt m _ _ _ hm
  have ok2 := hval 2 39 v2 rfl rfl
  obtain ⟨A2, len2, cap2, xs2, rfl, hx2⟩ := open_steps ok2 h2
  clear hA0 hval0
  refine (walk a0 A1 len1 cap1 xs1 A2 len2 cap2 xs2 W hx1 hx2).mono fun e W' ⟨he, bel⟩ => ?_
  subst he
  exact ⟨_, rfl, _, _, _, [], _, [], hW', trodAll_mk1 (shut_bool Try.underlying4 _), (trodAll_cons_mk (Below.trod laidOut (by kernel_rfl) (of_decide_eq_true (by kernel_rfl)) k0 bel lt0) (trodAll_cons_mk (Below.trod laidOut (by kernel_rfl) (of_decide_eq_true (by kernel_rfl)) k1 bel lt1) (trodAll_cons_mk (Below.trod laidOut (by kernel_rfl) (of_decide_eq_true (by kernel_rfl)) k2 bel lt2) trodAll_mk0))), rfl, bel.frame _, fun h => by cases h⟩

theorem over : Rows.bladeSharpRow.holds Try.pinned (OpenSpec.ofChange Rows.bladeSharpSpec) :=
  OpenClaim.holds_of_wide 7 Try.f7 rfl rfl rfl rfl rfl rfl rfl ⟨rfl, rfl, rfl, rfl, rfl⟩ rfl rfl rfl rfl rfl (by kernel_rfl) Try.func7 (by kernel_rfl)
    (of_decide_eq_true (by kernel_rfl)) (by unfold Func.isWrapper; first | (rw [if_pos (by decide +kernel)]; kernel_rfl) | (rw [if_neg (by decide +kernel)]; exact ⟨rfl, rfl⟩))
    (fun os started H enc _ => lifted os started H enc)

theorem proved : Rows.BladeSharpSaid := over
end Go.Proofs.Ytlbooffoebjllaa.bladeSharp
