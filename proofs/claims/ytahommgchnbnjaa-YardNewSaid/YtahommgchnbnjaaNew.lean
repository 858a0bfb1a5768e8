/-
  YardNew returns true for all numbers of bays and capacities.
-/
import Derived.Test.YtahommgchnbnjaaAlike
namespace Go.Proofs.Ytahommgchnbnjaa
open Go.RowKit
theorem strs_new (n : Nat) : strs (List.replicate n []) = List.replicate n [] := by
  unfold strs
  rw [List.map_replicate]
  rfl
theorem twin_new {w w2 w3 : World} {g b n c : Nat} {A : Option Addr} (h : YB w (fun _ => False) w2 g b c 0 (List.replicate n [])) (hs : Same w2 w3) (hr : RY (fun i => w2.heap.size ≤ i ∧ i < w3.heap.size) w3 A n none 0 0 (List.replicate n []) []) :
    Twin w (fun i => w2.heap.size ≤ i ∧ i < w3.heap.size) w3 g b c 0 n A none 0 0 (List.replicate n []) [] := by
  refine ⟨(h.grow hs).mono fun i hi => .inr hi, inv_new n, ?_⟩
  rw [strs_new]
  exact hr
end Go.Proofs.Ytahommgchnbnjaa
namespace Go.Proofs.Ytahommgchnbnjaa.yardNew
open Go.ChangeShapes Go.WideShapes Go.ChangeAt Go.RowKit

theorem below_end {w w2 w9 : World} (t : Below w.heap.size w w2) (h : Below w2.heap.size w2 w9) : (Ending.returned (.bool true)) = .returned (.bool true) ∧ Below w.heap.size w w9 := ⟨rfl, t.trans (h.mono t.size)⟩

set_option maxRecDepth 100000 in
set_option maxHeartbeats 1000000 in
theorem walk (n c : Int) (w : World) : Calls Try.prog 5 #[.int .i64 n, .int .i64 c] w fun e w' => e = .returned (.bool true) ∧ Below w.heap.size w w' := by
  by_cases hbad : NewBad n c
  · go_enter Try.func5, Try.ntmps5
    go_wp2_with fail
    refine (new_bad n c _ hbad).mono ?_
    rintro e w' ⟨rfl, rfl⟩
    go_wp2_with fail
    refine (rnew_bad n c _ hbad).mono ?_
    rintro e w2 ⟨rfl, hs2⟩
    unfold rv
    have b2 := (Fr.alloc hs2 (.cells #[.int .i64 (0 : Nat), .slice none 0 0, .slice none 0 0] 47)).below (Nat.le_refl _) (fun _ _ x => x.elim)
    go_wp2_with fail
    refine (awake_any _).mono ?_
    rintro e w9 ⟨rfl, hb9⟩
    go_wp2
    go_ret
    exact below_end b2 hb9
  · have hg : (1 ≤ n ∧ n ≤ 16) ∧ 1 ≤ c ∧ c ≤ 32 := by unfold NewBad at hbad; omega
    obtain ⟨⟨g1, g2⟩, g3, g4⟩ := hg
    obtain ⟨n, rfl⟩ : ∃ k : Nat, n = (k : Int) := ⟨n.toNat, by omega⟩
    obtain ⟨c, rfl⟩ : ∃ k : Nat, c = (k : Int) := ⟨c.toNat, by omega⟩
    clear hbad
    go_enter Try.func5, Try.ntmps5
    go_wp2_with fail
    refine (new_yb n c _ (by omega) (by omega) (by omega) (by omega)).mono ?_
    rintro e w2 ⟨rfl, h2, hs2⟩
    go_wp2_with fail
    refine (rnew_any n c _ (by omega) (by omega) (by omega) (by omega)).mono ?_
    rintro e w3 ⟨A3, rfl, hs3, hR3⟩
    have hT := (twin_new h2 hs3 hR3).same (box47 w3 (.int .i64 c) (.slice A3 n n) (.slice none 0 0))
    clear h2 hs2 hs3 hR3
    unfold rv
    go_wp2_with fail
    refine (alike_any w _ _ _ c 0 n n A3 none 0 0 _ _ _ hT).mono ?_
    rintro e w4 ⟨rfl, hs4⟩
    have hb := (hT.same hs4).y.bel
    clear hT hs4
    go_wp2_with fail
    refine (awake_any _).mono ?_
    rintro e w9 ⟨rfl, hb9⟩
    go_wp2
    go_ret
    exact below_end hb hb9

theorem own : ownKnob Try.prog.godebug = none := by kernel_rfl
theorem laidOut : laidOutB Try.prog = true := by kernel_rfl

set_option maxRecDepth 100000 in
theorem lifted (os : Os) (started : os.Started) (H : Type) (enc : TypeId × Value → H) :
    ReturnsInHanded {} Try.checked os 5 .any (Rows.yardNewSpec.pre6 enc Try.prog Try.f5 Rows.yardNewRow.domain false) (Rows.yardNewSpec.post enc Try.prog Try.f5 false true false false) := by
  refine returnsInHanded_of_change (C := Try.checked) own started (by kernel_rfl) Try.func5
    (ChangeSpec.witness6 (enc := enc) (C := Try.checked) false ⟨#[], #[.int .i64 0, .int .i64 0], []⟩ 8 (by kernel_rfl) (by kernel_rfl) (by kernel_rfl) (by kernel_rfl)) ?_
  intro W base args ds gs before hval0 hW hcnd _
  have hval : ∀ (j : Nat) t v, Try.f5.params[j]? = some t → args[j]? = some v → Value.okWide Try.prog W .any base t v := hval0
  have hW' := hW
  obtain ⟨p, q, hA0, hV, rfl, hfz, hnd⟩ := hW
  have hA : DataW.TrodAll enc Try.prog W 0 (fun _ => true) true Try.f5.params.toList args.toList ds p := hA0
  rw [Try.params5] at hA hval
  obtain ⟨v0, vs0, d0, ds0, p0, q0, hargs, rfl, rfl, h0, r0⟩ := trodAll_cons hA
  obtain ⟨v1, vs1, d1, ds1, p1, q1, rfl, rfl, rfl, h1, r1⟩ := trodAll_cons r0
  obtain ⟨rfl, rfl, rfl⟩ := trodAll_nil r1
  obtain rfl : args = #[v0, v1] := by cases args; simp_all
  obtain ⟨rfl, rfl⟩ := trodVars_none hV
  have k0 := h0
  have lt0 : ∀ x ∈ p0, x.block < W.heap.size := by obtain ⟨m, hm⟩ := k0; exact DataW.trod_lt m _ _ _ hm
  have ok0 := hval 0 3 v0 rfl rfl
  obtain ⟨n0, rfl, hn0⟩ := open_i64 ok0 h0
  have k1 := h1
  have lt1 : ∀ x ∈ p1, x.block < W.heap.size := by obtain ⟨m, hm⟩ := k1; exact DataW.trod_lt m _ _ _ hm
  have ok1 := hval 1 3 v1 rfl rfl
  obtain ⟨n1, rfl, hn1⟩ := open_i64 ok1 h1
  clear hA0 hval0
  refine (walk n0 n1 W).mono fun e W' ⟨he, bel⟩ => ?_
  subst he
  exact ⟨_, rfl, _, _, _, [], _, [], hW', trodAll_mk1 (shut_bool Try.underlying4 _), (trodAll_cons_mk (Below.trod laidOut (by kernel_rfl) (of_decide_eq_true (by kernel_rfl)) k0 bel lt0) (trodAll_cons_mk (Below.trod laidOut (by kernel_rfl) (of_decide_eq_true (by kernel_rfl)) k1 bel lt1) trodAll_mk0)), rfl, bel.frame _, fun h => by cases h⟩

theorem over : Rows.yardNewRow.holds Try.pinned (OpenSpec.ofChange Rows.yardNewSpec) :=
  OpenClaim.holds_of_wide 5 Try.f5 rfl rfl rfl rfl rfl rfl rfl ⟨rfl, rfl, rfl, rfl, rfl⟩ rfl rfl rfl rfl rfl (by kernel_rfl) Try.func5 (by kernel_rfl)
    (of_decide_eq_true (by kernel_rfl)) (by unfold Func.isWrapper; first | (rw [if_pos (by decide +kernel)]; kernel_rfl) | (rw [if_neg (by decide +kernel)]; exact ⟨rfl, rfl⟩))
    (fun os started H enc _ => lifted os started H enc)

theorem proved : Rows.YardNewSaid := over
end Go.Proofs.Ytahommgchnbnjaa.yardNew
