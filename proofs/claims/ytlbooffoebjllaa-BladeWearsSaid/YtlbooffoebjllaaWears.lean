/-
  BladeWears returns true for every limit and every list of calls.
-/
import Derived.Test.YtlbooffoebjllaaWalkg
import Derived.Test.YtlbooffoebjllaaArgs
import Derived.Deep.LoopGhost
namespace Go.Proofs.Ytlbooffoebjllaa.bladeWears
open Go.ChangeShapes Go.WideShapes Go.ChangeAt Go.RowKit

/-- What a call does to the wear and to what was cut. -/
theorem step_cases (s : St) (hs : s.Ok) (op a : Int) :
    (∃ c, c ≠ 0 ∧ s.step op a = (s, 0, c)) ∨ (¬ (0 ≤ op ∧ op ≤ 2) ∧ s.step op a = (⟨s.L, 1, 0, s.N⟩, 0, 0)) ∨
      ((0 ≤ op ∧ op ≤ 2) ∧ ∃ S' m, 0 ≤ m ∧ m ≤ 10000000000 ∧ (m = 0 ∨ m ≤ a) ∧ s.step op a = (⟨s.L, S', s.W + m, s.N + m⟩, m, 0)) := by
  obtain ⟨l1, l2, s1, w1, w2, hd, n1⟩ := hs
  obtain ⟨L, S, W, N⟩ := s
  simp only at *
  by_cases e0 : op = 0
  · subst e0
    by_cases h4 : S = 4
    · exact .inl ⟨17, by omega, by simp [St.step, St.start, h4]⟩
    · by_cases h2 : S = 2
      · exact .inl ⟨14, by omega, by simp [St.step, St.start, h2]⟩
      · exact .inr (.inr ⟨by omega, 2, 0, by omega, by omega, .inl rfl, by simp [St.step, St.start, h2, h4]⟩)
  · by_cases e1 : op = 1
    · subst e1
      by_cases h2 : S = 2
      · by_cases hr : a < 0 ∨ a > 10000000000
        · exact .inl ⟨9, by omega, by simp [St.step, St.cut, h2, hr]⟩
        · exact .inr (.inr ⟨by omega, _, min a (L - W), by omega, by omega, by omega, by simp [St.step, St.cut, h2, hr]; rfl⟩)
      · exact .inl ⟨14, by omega, by simp [St.step, St.cut, h2]⟩
    · by_cases e2 : op = 2
      · subst e2
        by_cases h2 : S = 2
        · exact .inr (.inr ⟨by omega, 3, 0, by omega, by omega, .inl rfl, by simp [St.step, St.stop, h2]⟩)
        · exact .inl ⟨14, by omega, by simp [St.step, St.stop, h2]⟩
      · by_cases h2 : S = 2
        · exact .inl ⟨14, by omega, by simp [St.step, St.sharpen, h2, e0, e1, e2]⟩
        · exact .inr (.inl ⟨by omega, by simp [St.step, St.sharpen, h2, e0, e1, e2]⟩)

theorem do_to {g : Nat} {s s' : St} {m c op a : Int} {w : World} (h : IsB w g s) (hs : s.Ok) (hN : s.N ≤ 1000000000000000) (e : s.step op a = (s', m, c)) :
    Calls Try.prog 17 #[.pointer (some ⟨g, 0, none⟩), .agg #[.int .i64 op, .int .i64 a]] w fun e w' => e = .returned (.tuple #[.int .i64 m, .int .i64 c]) ∧ IsB w' g s' ∧ Fr (fun i => i = g) w w' :=
  (do_any g s op a w h hs hN).mono fun _ _ ⟨_, _, he, hm, hn, hB, hf⟩ => by rw [e] at hm hn hB; subst hn; subst hm; exact ⟨he, hB, hf⟩

/-- What holds at the head of each round. -/
def Rel (w : World) (g len : Nat) (n : Int) (wear sawn i : Value) (wr : World) : Prop :=
  ∃ (k : Nat) (s : St), k ≤ len ∧ i = .int .i64 k ∧ s.Ok ∧ s.N ≤ 10000000000 * k ∧ s.L = n ∧ wear = .int .i64 s.W ∧ sawn = .int .i64 s.N ∧ IsB wr g s ∧ Below w.heap.size w wr

theorem rel_next {w wr w3 : World} {len k : Nat} {s s' : St} {n op a m c : Int} (hlt : k < len) (hs : s.Ok) (hN : s.N ≤ 10000000000 * k) (hL : s.L = n) (e : s.step op a = (s', m, c)) (hL' : s'.L = s.L)
    (hB : IsB w3 w.heap.size s') (hf : Fr (fun i => i = w.heap.size) wr w3) (hb : Below w.heap.size w wr) : Rel w w.heap.size len n (.int .i64 s'.W) (.int .i64 s'.N) (.int .i64 ((k : Int) + 1)) w3 := by
  have hok := St.step_ok hs op a
  have hNs := St.step_N hs op a
  rw [e] at hok hNs
  simp only at hok hNs
  exact ⟨k + 1, s', by omega, by simp, hok, by omega, by omega, rfl, rfl, hB, hb.trans (hf.below hb.size (fun i _ h => by omega))⟩

set_option maxRecDepth 100000 in
set_option maxHeartbeats 4000000 in
theorem walk (n : Int) (A : Option Addr) (len cap : Nat) (xs : List (Int × Int)) (w : World) (hx : IsSteps w A len xs) :
    Calls Try.prog 6 #[.int .i64 n, .slice A len cap] w fun e w' => e = .returned (.bool true) ∧ Below w.heap.size w w' := by
  have hml := hx.2.1
  unfold maxLen at hml
  by_cases h : n < 1 ∨ n > 1000000000000
  · clear hx
    by_cases hlen : (len : Int) > 200
    · go_enter Try.func6, Try.ntmps6
      go_wp2_with fail
      refine (new_bad n w h).mono ?_
      rintro e w1 ⟨rfl, rfl⟩
      go_wp2_with fail
      refine (awake_any _).mono ?_
      rintro e w2 ⟨rfl, hb2⟩
      go_wp2
      go_ret
      exact ⟨rfl, hb2⟩
    · go_enter Try.func6, Try.ntmps6
      go_wp2_with fail
      refine (new_bad n w h).mono ?_
      rintro e w1 ⟨rfl, rfl⟩
      go_wp2_with fail
      refine (awake_any _).mono ?_
      rintro e w2 ⟨rfl, hb2⟩
      go_wp2
      go_ret
      exact ⟨rfl, hb2⟩
  · have h1 : 1 ≤ n := by omega
    have h2 : n ≤ 1000000000000 := by omega
    clear h
    by_cases hlen : len > 200
    · clear hx
      go_enter Try.func6, Try.ntmps6
      go_wp2_with fail
      refine (new_ok n w h1 h2).mono ?_
      rintro e w1 ⟨rfl, hB, hb, hsz⟩
      go_wp2_with fail
      refine (awake_any _).mono ?_
      rintro e w3 ⟨rfl, hb3⟩
      go_wp2
      go_ret
      exact ⟨rfl, hb.trans (hb3.mono (by omega))⟩
    · have HX := Lib.hid hx
      clear hx
      go_enter Try.func6, Try.ntmps6
      go_wp2_with fail
      refine (new_ok n w h1 h2).mono ?_
      rintro e w1 ⟨rfl, hB, hb, hsz⟩
      have hR : Rel w w.heap.size len n (.int .i64 0) (.int .i64 0) (.int .i64 0) w1 := ⟨0, ⟨n, 1, 0, 0⟩, by omega, rfl, ok0 n h1 h2, by simp, rfl, rfl, rfl, hB, hb⟩
      clear hB hb hsz
      go_wp2
      go_loopw [7, 8, 9] (fun a b i wr => Rel w w.heap.size len n a b i wr) (fun _ _ i _ => len - (intOf i).toNat)
      case atStart => exact hR
      case round =>
        obtain ⟨k, s, hk, rfl, hs, hN, hL, rfl, rfl, hB, hb⟩ := hrel
        by_cases hlt : k < len
        · obtain ⟨x, hxk⟩ : ∃ x, xs[k]? = some x := ⟨xs[k]'(by rw [HX.out.1]; exact hlt), List.getElem?_eq_getElem _⟩
          obtain ⟨b, o, rfl, hbl, hc0, hc1, hrg⟩ := HX.out.2.2.2 k x hxk
          obtain ⟨op, ar⟩ := x
          have e0 := hb.cell (p := ⟨b, o + k * 2, none⟩) hbl
          have e1 := hb.cell (p := ⟨b, o + k * 2 + 1, none⟩) hbl
          rw [hc0] at e0
          rw [show o + k * 2 + 1 = o + (k * 2 + 1) from by omega, hc1] at e1
          rw [show o + (k * 2 + 1) = o + k * 2 + 1 from by omega] at e1
          have HK := Lib.hid hxk
          have HL := Lib.hid hL
          clear hc0 hc1 hxk hL
          have hN' : s.N ≤ 1000000000000000 := by omega
          have hwr := hb.size
          have hd := hs.d
          have hw1 := hs.w1
          have hw2 := hs.w2
          have hn1 := hs.n1
          rcases step_cases s hs op ar with ⟨c, hc, hE⟩ | ⟨hop, hE⟩ | ⟨hop, S', m, hm1, hm2, hm3, hE⟩
          · have EE := Lib.hid hE
            have kc : (c != 0) = true := by simpa using hc
            have kc2 : (c == 0) = false := by simpa using hc
            have kl : s.W ≤ n := by have := HL.out; omega
            have kd : (s.S == 4) = (s.W == n) := by rw [Bool.eq_iff_iff]; have := HL.out; simp; omega
            clear hE hd hc
            by_cases o1 : op < 0
            · go_wp2_with fail
              refine (state_any _ s _ hB).mono ?_
              rintro e w' ⟨rfl, rfl⟩
              go_wp2_with fail
              refine (do_to (s' := s) (m := 0) (c := c) hB hs hN' EE.out).mono ?_
              rintro e w3 ⟨rfl, hB3, hf3⟩
              have HE := Lib.hid (rel_next hlt hs hN HL.out EE.out rfl hB3 hf3 hb)
              have E0 := hf3.block b (by omega) (by omega)
              have f0 : w3.cell? ⟨b, o + k * 2, none⟩ = some (.int .i64 op) := by rw [← e0]; unfold World.cell?; rw [E0]
              have f1 : w3.cell? ⟨b, o + k * 2 + 1, none⟩ = some (.int .i64 ar) := by rw [← e1]; unfold World.cell?; rw [E0]
              clear e0 e1 E0 hf3
              go_wp2_with (first | (go_at_call 15; refine (state_any _ _ _ hB3).mono ?_; rintro e w' ⟨rfl, rfl⟩) | (go_at_call 16; refine (wear_any _ _ _ hB3).mono ?_; rintro e w' ⟨rfl, rfl⟩) | (go_at_call 19; refine (sawn_any _ _ _ hB3).mono ?_; rintro e w' ⟨rfl, rfl⟩))
              go_roundw
              case rel => first | exact HE.out | (simpa using HE.out)
              case measure => simp [intOf]; omega
            · by_cases o2 : op > 2
              · go_wp2_with fail
                refine (state_any _ s _ hB).mono ?_
                rintro e w' ⟨rfl, rfl⟩
                go_wp2_with fail
                refine (do_to (s' := s) (m := 0) (c := c) hB hs hN' EE.out).mono ?_
                rintro e w3 ⟨rfl, hB3, hf3⟩
                have HE := Lib.hid (rel_next hlt hs hN HL.out EE.out rfl hB3 hf3 hb)
                have E0 := hf3.block b (by omega) (by omega)
                have f0 : w3.cell? ⟨b, o + k * 2, none⟩ = some (.int .i64 op) := by rw [← e0]; unfold World.cell?; rw [E0]
                have f1 : w3.cell? ⟨b, o + k * 2 + 1, none⟩ = some (.int .i64 ar) := by rw [← e1]; unfold World.cell?; rw [E0]
                clear e0 e1 E0 hf3
                go_wp2_with (first | (go_at_call 15; refine (state_any _ _ _ hB3).mono ?_; rintro e w' ⟨rfl, rfl⟩) | (go_at_call 16; refine (wear_any _ _ _ hB3).mono ?_; rintro e w' ⟨rfl, rfl⟩) | (go_at_call 19; refine (sawn_any _ _ _ hB3).mono ?_; rintro e w' ⟨rfl, rfl⟩))
                go_roundw
                case rel => first | exact HE.out | (simpa using HE.out)
                case measure => simp [intOf]; omega
              · go_wp2_with fail
                refine (state_any _ s _ hB).mono ?_
                rintro e w' ⟨rfl, rfl⟩
                go_wp2_with fail
                refine (do_to (s' := s) (m := 0) (c := c) hB hs hN' EE.out).mono ?_
                rintro e w3 ⟨rfl, hB3, hf3⟩
                have HE := Lib.hid (rel_next hlt hs hN HL.out EE.out rfl hB3 hf3 hb)
                have E0 := hf3.block b (by omega) (by omega)
                have f0 : w3.cell? ⟨b, o + k * 2, none⟩ = some (.int .i64 op) := by rw [← e0]; unfold World.cell?; rw [E0]
                have f1 : w3.cell? ⟨b, o + k * 2 + 1, none⟩ = some (.int .i64 ar) := by rw [← e1]; unfold World.cell?; rw [E0]
                clear e0 e1 E0 hf3
                go_wp2_with (first | (go_at_call 15; refine (state_any _ _ _ hB3).mono ?_; rintro e w' ⟨rfl, rfl⟩) | (go_at_call 16; refine (wear_any _ _ _ hB3).mono ?_; rintro e w' ⟨rfl, rfl⟩) | (go_at_call 19; refine (sawn_any _ _ _ hB3).mono ?_; rintro e w' ⟨rfl, rfl⟩))
                go_roundw
                case rel => first | exact HE.out | (simpa using HE.out)
                case measure => simp [intOf]; omega
          · have EE := Lib.hid hE
            have kd : ((1 : Int) == 4) = ((0 : Int) == n) := by rw [Bool.eq_iff_iff]; simp; omega
            have kn : ((0 : Int) == n) = false := by simp; omega
            have kp : ¬ n < 0 := by omega
            clear hE hd
            by_cases o1 : op < 0
            · go_wp2_with fail
              refine (state_any _ s _ hB).mono ?_
              rintro e w' ⟨rfl, rfl⟩
              go_wp2_with fail
              refine (do_to (s' := ⟨s.L, 1, 0, s.N⟩) (m := 0) (c := 0) hB hs hN' EE.out).mono ?_
              rintro e w3 ⟨rfl, hB3, hf3⟩
              have HE := Lib.hid (rel_next hlt hs hN HL.out EE.out rfl hB3 hf3 hb)
              have E0 := hf3.block b (by omega) (by omega)
              have f0 : w3.cell? ⟨b, o + k * 2, none⟩ = some (.int .i64 op) := by rw [← e0]; unfold World.cell?; rw [E0]
              have f1 : w3.cell? ⟨b, o + k * 2 + 1, none⟩ = some (.int .i64 ar) := by rw [← e1]; unfold World.cell?; rw [E0]
              clear e0 e1 E0 hf3
              go_wp2_with (first | (go_at_call 15; refine (state_any _ _ _ hB3).mono ?_; rintro e w' ⟨rfl, rfl⟩) | (go_at_call 16; refine (wear_any _ _ _ hB3).mono ?_; rintro e w' ⟨rfl, rfl⟩) | (go_at_call 19; refine (sawn_any _ _ _ hB3).mono ?_; rintro e w' ⟨rfl, rfl⟩))
              go_roundw
              case rel => first | exact HE.out | (simpa using HE.out)
              case measure => simp [intOf]; omega
            · have o2 : op > 2 := by omega
              go_wp2_with fail
              refine (state_any _ s _ hB).mono ?_
              rintro e w' ⟨rfl, rfl⟩
              go_wp2_with fail
              refine (do_to (s' := ⟨s.L, 1, 0, s.N⟩) (m := 0) (c := 0) hB hs hN' EE.out).mono ?_
              rintro e w3 ⟨rfl, hB3, hf3⟩
              have HE := Lib.hid (rel_next hlt hs hN HL.out EE.out rfl hB3 hf3 hb)
              have E0 := hf3.block b (by omega) (by omega)
              have f0 : w3.cell? ⟨b, o + k * 2, none⟩ = some (.int .i64 op) := by rw [← e0]; unfold World.cell?; rw [E0]
              have f1 : w3.cell? ⟨b, o + k * 2 + 1, none⟩ = some (.int .i64 ar) := by rw [← e1]; unfold World.cell?; rw [E0]
              clear e0 e1 E0 hf3
              go_wp2_with (first | (go_at_call 15; refine (state_any _ _ _ hB3).mono ?_; rintro e w' ⟨rfl, rfl⟩) | (go_at_call 16; refine (wear_any _ _ _ hB3).mono ?_; rintro e w' ⟨rfl, rfl⟩) | (go_at_call 19; refine (sawn_any _ _ _ hB3).mono ?_; rintro e w' ⟨rfl, rfl⟩))
              go_roundw
              case rel => first | exact HE.out | (simpa using HE.out)
              case measure => simp [intOf]; omega
          · have EE := Lib.hid hE
            have hok := St.step_ok hs op ar
            rw [hE] at hok
            have k2 : s.W + m ≤ n := by have := hok.w2; simp only at this; have := HL.out; omega
            have kd : (S' == 4) = (s.W + m == n) := by rw [Bool.eq_iff_iff]; have := hok.d; simp only at this; have := HL.out; simp; omega
            obtain ⟨o1, o2⟩ := hop
            clear hE hd hok
            by_cases m0 : m = 0
            · subst m0
              simp only [Int.add_zero] at k2 kd
              go_wp2_with fail
              refine (state_any _ s _ hB).mono ?_
              rintro e w' ⟨rfl, rfl⟩
              go_wp2_with fail
              refine (do_to (s' := ⟨s.L, S', s.W + 0, s.N + 0⟩) (m := 0) (c := 0) hB hs hN' EE.out).mono ?_
              rintro e w3 ⟨rfl, hB3, hf3⟩
              have HE := Lib.hid (rel_next hlt hs hN HL.out EE.out rfl hB3 hf3 hb)
              have E0 := hf3.block b (by omega) (by omega)
              have f0 : w3.cell? ⟨b, o + k * 2, none⟩ = some (.int .i64 op) := by rw [← e0]; unfold World.cell?; rw [E0]
              have f1 : w3.cell? ⟨b, o + k * 2 + 1, none⟩ = some (.int .i64 ar) := by rw [← e1]; unfold World.cell?; rw [E0]
              clear e0 e1 E0 hf3
              go_wp2_with (first | (go_at_call 15; refine (state_any _ _ _ hB3).mono ?_; rintro e w' ⟨rfl, rfl⟩) | (go_at_call 16; refine (wear_any _ _ _ hB3).mono ?_; rintro e w' ⟨rfl, rfl⟩) | (go_at_call 19; refine (sawn_any _ _ _ hB3).mono ?_; rintro e w' ⟨rfl, rfl⟩))
              go_roundw
              case rel => first | exact HE.out | (simpa using HE.out)
              case measure => simp [intOf]; omega
            · have mp : 0 < m := by omega
              have ma : m ≤ ar := by omega
              clear m0 hm3
              go_wp2_with fail
              refine (state_any _ s _ hB).mono ?_
              rintro e w' ⟨rfl, rfl⟩
              go_wp2_with fail
              refine (do_to (s' := ⟨s.L, S', s.W + m, s.N + m⟩) (m := m) (c := 0) hB hs hN' EE.out).mono ?_
              rintro e w3 ⟨rfl, hB3, hf3⟩
              have HE := Lib.hid (rel_next hlt hs hN HL.out EE.out rfl hB3 hf3 hb)
              have E0 := hf3.block b (by omega) (by omega)
              have f0 : w3.cell? ⟨b, o + k * 2, none⟩ = some (.int .i64 op) := by rw [← e0]; unfold World.cell?; rw [E0]
              have f1 : w3.cell? ⟨b, o + k * 2 + 1, none⟩ = some (.int .i64 ar) := by rw [← e1]; unfold World.cell?; rw [E0]
              clear e0 e1 E0 hf3
              go_wp2_with (first | (go_at_call 15; refine (state_any _ _ _ hB3).mono ?_; rintro e w' ⟨rfl, rfl⟩) | (go_at_call 16; refine (wear_any _ _ _ hB3).mono ?_; rintro e w' ⟨rfl, rfl⟩) | (go_at_call 19; refine (sawn_any _ _ _ hB3).mono ?_; rintro e w' ⟨rfl, rfl⟩))
              go_roundw
              case rel => first | exact HE.out | (simpa using HE.out)
              case measure => simp [intOf]; omega
        · go_wp2_with fail
          refine (awake_any _).mono ?_
          rintro e w3 ⟨rfl, hb3⟩
          go_wp2
          go_ret
          exact ⟨rfl, hb.trans (hb3.mono hb.size)⟩

theorem own : ownKnob Try.prog.godebug = none := by kernel_rfl
theorem laidOut : laidOutB Try.prog = true := by kernel_rfl

set_option maxRecDepth 100000 in
theorem lifted (os : Os) (started : os.Started) (H : Type) (enc : TypeId × Value → H) :
    ReturnsInHanded {} Try.checked os 6 .any (Rows.bladeWearsSpec.pre6 enc Try.prog Try.f6 Rows.bladeWearsRow.domain false) (Rows.bladeWearsSpec.post enc Try.prog Try.f6 false true false false) := by
  refine returnsInHanded_of_change (C := Try.checked) own started (by kernel_rfl) Try.func6
    (ChangeSpec.witness6 (enc := enc) (C := Try.checked) false ⟨#[], #[.int .i64 0, .slice none 0 0], []⟩ 8 (by kernel_rfl) (by kernel_rfl) (by kernel_rfl) (by kernel_rfl)) ?_
  intro W base args ds gs before hval0 hW hcnd _
  have hval : ∀ (j : Nat) t v, Try.f6.params[j]? = some t → args[j]? = some v → Value.okWide Try.prog W .any base t v := hval0
  have hW' := hW
  obtain ⟨p, q, hA0, hV, rfl, hfz, hnd⟩ := hW
  have hA : DataW.TrodAll enc Try.prog W 0 (fun _ => true) true Try.f6.params.toList args.toList ds p := hA0
  rw [Try.params6] at hA hval
  obtain ⟨v0, vs0, d0, ds0, p0, q0, hargs, rfl, rfl, h0, r0⟩ := trodAll_cons hA
  obtain ⟨v1, vs1, d1, ds1, p1, q1, rfl, rfl, rfl, h1, r1⟩ := trodAll_cons r0
  obtain ⟨rfl, rfl, rfl⟩ := trodAll_nil r1
  obtain rfl : args = #[v0, v1] := by cases args; simp_all
  obtain ⟨rfl, rfl⟩ := trodVars_none hV
  have k0 := h0
  have lt0 : ∀ x ∈ p0, x.block < W.heap.size := by obtain ⟨m, hm⟩ := k0; exact DataW.trod_lt m _ _ _ hm
  have ok0 := hval 0 3 v0 rfl rfl
  obtain ⟨a0, rfl, _, _, w0⟩ := open_int Try.underlying3 ok0 h0
  have k1 := h1
  have lt1 : ∀ x ∈ p1, x.block < W.heap.size := by obtain ⟨m, hm⟩ := k1; exact DataW.trod_lt m _ _ _ hm
  have ok1 := hval 1 39 v1 rfl rfl
  obtain ⟨A1, len1, cap1, xs1, rfl, hx1⟩ := open_steps ok1 h1
  clear hA0 hval0
  refine (walk a0 A1 len1 cap1 xs1 W hx1).mono fun e W' ⟨he, bel⟩ => ?_
  subst he
  exact ⟨_, rfl, _, _, _, [], _, [], hW', trodAll_mk1 (shut_bool Try.underlying4 _), (trodAll_cons_mk (Below.trod laidOut (by kernel_rfl) (of_decide_eq_true (by kernel_rfl)) k0 bel lt0) (trodAll_cons_mk (Below.trod laidOut (by kernel_rfl) (of_decide_eq_true (by kernel_rfl)) k1 bel lt1) trodAll_mk0)), rfl, bel.frame _, fun h => by cases h⟩

theorem over : Rows.bladeWearsRow.holds Try.pinned (OpenSpec.ofChange Rows.bladeWearsSpec) :=
  OpenClaim.holds_of_wide 6 Try.f6 rfl rfl rfl rfl rfl rfl rfl ⟨rfl, rfl, rfl, rfl, rfl⟩ rfl rfl rfl rfl rfl (by kernel_rfl) Try.func6 (by kernel_rfl)
    (of_decide_eq_true (by kernel_rfl)) (by unfold Func.isWrapper; first | (rw [if_pos (by decide +kernel)]; kernel_rfl) | (rw [if_neg (by decide +kernel)]; exact ⟨rfl, rfl⟩))
    (fun os started H enc _ => lifted os started H enc)

theorem proved : Rows.BladeWearsSaid := over
end Go.Proofs.Ytlbooffoebjllaa.bladeWears
