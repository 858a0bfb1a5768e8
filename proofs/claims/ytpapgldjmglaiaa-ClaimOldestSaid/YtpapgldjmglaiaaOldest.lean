/-
  ClaimOldest returns true for every account, every list of calls and every period.
-/
import Derived.Test.YtpapgldjmglaiaaWalkf
import Derived.Deep.RegionHeld3
import Derived.Deep.DrawnRows
import Derived.IntWalk
namespace Go.Proofs.Ytpapgldjmglaiaa.claimOldest
open Go.ChangeShapes Go.WideShapes Go.ChangeAt Go.RowKit
attribute [local go_sem ↓] Go.wp_at_zero Go.wp_at_succ

theorem rs_add (f g : Int → Int) (lo : Int) : ∀ n : Nat, rs (fun q => f q + g q) lo n = rs f lo n + rs g lo n
  | 0 => rfl
  | n + 1 => by simp only [rs, rs_add f g lo n]; omega
theorem rs_le {f g : Int → Int} (h : ∀ q, f q ≤ g q) (lo : Int) : ∀ n : Nat, rs f lo n ≤ rs g lo n
  | 0 => Int.le_refl _
  | n + 1 => by simp only [rs]; have := rs_le h lo n; have := h (lo + n); omega

theorem left_bd {a : Ac} {K : Nat} (h : a.Ok K) (q : Int) : 0 ≤ a.left q ∧ a.left q ≤ 225179981368524800 := by
  unfold Ac.left
  split
  · exact h.bd _ _
  · omega
theorem expired_bd {a : Ac} {K : Nat} (h : a.Ok K) (q : Int) : 0 ≤ a.expired q ∧ a.expired q ≤ 225179981368524800 := by
  unfold Ac.expired
  split
  · exact h.bd _ _
  · omega

/-- What a call does, as seen from its own period and from any. -/
theorem step_seen {a : Ac} {K : Nat} (h : a.Ok K) (hK : K + 1 ≤ 200) (c : Bool) (per vol q : Int) :
    ((a.step c per vol).2 ≠ 0 ∧ (a.step c per vol).1 = a) ∨
    ((a.step c per vol).2 = 0 ∧ c = false ∧ a.cr ≤ (a.step c per vol).1.cr ∧ (a.step c per vol).1.cl = a.cl ∧ (a.step c per vol).1.left per = a.left per + (a.step c per vol).1.cr - a.cr) ∨
    ((a.step c per vol).2 = 0 ∧ c = true ∧ 0 ≤ vol ∧ vol ≤ 1125899906842624 ∧ (a.step c per vol).1.cr = a.cr ∧ (a.step c per vol).1.cl = a.cl + vol ∧ (a.step c per vol).1.left per = a.left per - vol ∧
      (a.step c per vol).1.expired q ≤ a.expired q ∧ a.expired q - vol ≤ (a.step c per vol).1.expired q ∧ (a.step c per vol).1.left q ≤ a.left q) := by
  have p1 := h.p1
  cases c with
  | false =>
    by_cases hc : a.check per vol = 0
    · have e : a.step false per vol = ({ a with T := per, f := addAt a.f per (vol * a.F / 1000), cr := a.cr + vol * a.F / 1000 }, 0) := by
        unfold Ac.step Ac.credit; rw [if_neg (by simp), if_neg (by simpa using hc)]
      obtain ⟨q1, q2, q3, q4, q5⟩ := check_zero (by simpa using hc)
      obtain ⟨m1, m2, m3, m4⟩ := mul_div_bd q4 q5 h.f1 h.f2
      have hP : Ac.isP per = true := by simp [Ac.isP]; omega
      rw [e]
      refine .inr (.inl ⟨rfl, rfl, by show a.cr ≤ a.cr + _; omega, rfl, ?_⟩)
      unfold Ac.left
      rw [if_pos hP, if_pos hP]
      show rs (addAt a.f per (vol * a.F / 1000)) (per - a.P + 1) a.P.toNat = _ + (a.cr + vol * a.F / 1000) - a.cr
      rw [addAt_rs, if_pos (by omega)]
      omega
    · exact .inl (by
        have e : a.step false per vol = (a, a.check per vol) := by unfold Ac.step Ac.credit; rw [if_neg (by simp), if_pos hc]
        rw [e]; exact ⟨hc, rfl⟩)
  | true =>
    by_cases hc : a.check per vol = 0
    · by_cases hq : vol > a.left per
      · exact .inl (by
          have e : a.step true per vol = (a, 23) := by unfold Ac.step Ac.claim; rw [if_pos rfl, if_neg (by simpa using hc), if_pos hq]
          rw [e]; exact ⟨by simp, rfl⟩)
      · have e : a.step true per vol = ({ a with T := per, f := drain a.f (per - a.P + 1) a.P.toNat vol, cl := a.cl + vol }, 0) := by
          unfold Ac.step Ac.claim; rw [if_pos rfl, if_neg (by simpa using hc), if_neg hq]
        have ok' := Ac.step_ok h hK true per vol
        obtain ⟨q1, q2, q3, q4, q5⟩ := check_zero (by simpa using hc)
        have hP : Ac.isP per = true := by simp [Ac.isP]; omega
        have t1 := h.t1
        rw [e] at ok' ⊢
        have dle := fun q => drain_le h.nn (lo := per - a.P + 1) (N := a.P.toNat) (V := vol) q
        have hl : a.left per = rs a.f (per - a.P + 1) a.P.toNat := by unfold Ac.left; rw [if_pos hP]
        have tot' := ok'.tot
        have tot := h.tot
        simp only at tot'
        -- what was taken
        have hd : ∀ lo n, rs a.f lo n = rs (drain a.f (per - a.P + 1) a.P.toNat vol) lo n + rs (fun q => a.f q - drain a.f (per - a.P + 1) a.P.toNat vol q) lo n := by
          intro lo n
          rw [← rs_add]
          exact rs_congr (fun i _ => by omega)
        have hdt : ∀ lo n, rs (fun q => a.f q - drain a.f (per - a.P + 1) a.P.toNat vol q) lo n ≤ vol := by
          intro lo n
          have h1 := rs_le_total (f := fun q => a.f q - drain a.f (per - a.P + 1) a.P.toNat vol q) (T := per) (fun p => by have := dle p; omega) (fun p hp => by have := dle p; have := h.sp p (by omega); omega) (by omega) lo n
          have h2 := hd 0 (per + 1).toNat
          have h3 := rs_all h.sp t1 (A := 0) (M := (per + 1).toNat) (by omega) (by omega)
          omega
        have hdn : ∀ lo n, 0 ≤ rs (fun q => a.f q - drain a.f (per - a.P + 1) a.P.toNat vol q) lo n := fun lo n => rs_nonneg (fun p => by have := dle p; omega) lo n
        refine .inr (.inr ⟨rfl, rfl, q4, q5, rfl, rfl, ?_, ?_, ?_, ?_⟩)
        · rw [hl] at hq ⊢
          unfold Ac.left
          rw [if_pos hP]
          show rs (drain a.f (per - a.P + 1) a.P.toNat vol) (per - a.P + 1) a.P.toNat = _
          rw [drain_rs _ (Nat.le_refl _)]
          omega
        · unfold Ac.expired
          split
          · exact rs_le (fun q => (dle q).2) _ _
          · exact Int.le_refl _
        · unfold Ac.expired
          split
          · show rs a.f 0 (q - a.P + 1).toNat - vol ≤ rs (drain a.f (per - a.P + 1) a.P.toNat vol) 0 (q - a.P + 1).toNat
            have := hd 0 (q - a.P + 1).toNat
            have := hdt 0 (q - a.P + 1).toNat
            omega
          · omega
        · unfold Ac.left
          split
          · exact rs_le (fun q => (dle q).2) _ _
          · exact Int.le_refl _
    · exact .inl (by
        have e : a.step true per vol = (a, a.check per vol) := by unfold Ac.step Ac.claim; rw [if_pos rfl, if_pos hc]
        rw [e]; exact ⟨hc, rfl⟩)

/-- What the last region keeps. -/
def S2 (w : World) (g r gb : Nat) (F P q : Int) (a : Ac) (W : World) : Prop := IsA W g r a ∧ Blk W gb 22 #[.int .i64 F, .int .i64 P, .int .i64 q] ∧ Below w.heap.size w W
theorem S2.isA {w W : World} {g r gb : Nat} {F P q : Int} {a : Ac} (h : S2 w g r gb F P q a W) : IsA W g r a := h.1
theorem S2.same {w W W' : World} {g r gb : Nat} {F P q : Int} {a : Ac} (hs : Same W W') (h : S2 w g r gb F P q a W) : S2 w g r gb F P q a W' :=
  ⟨h.1.same hs, h.2.1.fr hs (fun x => x), h.2.2.trans (Fr.below hs h.2.2.size (fun i _ x => x.elim))⟩
theorem S2.drew {w W : World} {g r gb : Nat} {F P q : Int} {a : Ac} (h : S2 w g r gb F P q a W) : S2 w g r gb F P q a W.drew := S2.same ((Fr.refl _ _).drew) h
theorem same_cell {W W' : World} {p : Addr} {v : Value} (hs : Same W W') (h : W.cell? p = some v) : W'.cell? p = some v := by
  have hl := World.block_lt_of_cell? _ _ h
  have e := hs.block p.block hl (fun x => x)
  rw [← h]
  unfold World.cell?
  rw [e]

/-- What holds at the head of each round. -/
def Rel (w : World) (g r gb len : Nat) (F P q : Int) (i : Value) (wr : World) : Prop :=
  ∃ (k : Nat) (a : Ac), k ≤ len ∧ i = .int .i64 k ∧ a.Ok k ∧ IsA wr g r a ∧ Blk wr gb 22 #[.int .i64 F, .int .i64 P, .int .i64 q] ∧ Below w.heap.size w wr

set_option maxRecDepth 100000 in
set_option maxHeartbeats 4000000 in
theorem walk (F P q : Int) (A : Option Addr) (len cap : Nat) (xs : List (Bool × Int × Int)) (w : World) (hx : IsSteps w A len xs) :
    Calls Try.prog 5 #[.agg #[.int .i64 F, .int .i64 P, .int .i64 q], .slice A len cap] w fun e w' => e = .returned (.bool true) ∧ Below w.heap.size w w' := by
  have hml := hx.2.1
  unfold maxLen at hml
  by_cases h : F < 0 ∨ F > 1000 ∨ P < 1 ∨ P > 24
  · clear hx
    go_enter Try.func5, Try.ntmps5
    go_wp2_with fail
    refine (new_bad F P _ h).mono ?_
    rintro e w1 ⟨rfl, rfl⟩
    go_wp2_with fail
    refine (awake_any _).mono ?_
    rintro e w2 ⟨rfl, hb2⟩
    go_wp2
    go_ret
    exact ⟨rfl, ((Below.refl _ _).alloc (Nat.le_refl _) _).trans (hb2.mono (by simp))⟩
  · have f1 : 0 ≤ F := by omega
    have f2 : F ≤ 1000 := by omega
    have p1 : 1 ≤ P := by omega
    have p2 : P ≤ 24 := by omega
    clear h
    by_cases hlen : len > 100
    · clear hx
      go_enter Try.func5, Try.ntmps5
      go_wp2_with fail
      refine (new_ok F P _ f1 f2 p1 p2).mono ?_
      rintro e w1 ⟨rfl, hA, hb⟩
      have hsz := hb.size
      rw [World.size_alloc] at hb hsz
      go_wp2_with fail
      refine (awake_any _).mono ?_
      rintro e w2 ⟨rfl, hb2⟩
      go_wp2
      go_ret
      exact ⟨rfl, (((Below.refl _ _).alloc (Nat.le_refl _) _).trans (hb.mono (by omega))).trans (hb2.mono (by omega))⟩
    · have HX := Lib.hid hx
      clear hx
      go_enter Try.func5, Try.ntmps5
      go_wp2_with fail
      refine (new_ok F P _ f1 f2 p1 p2).mono ?_
      rintro e w1 ⟨rfl, hA, hb⟩
      rw [World.size_alloc] at hA hb
      have hR : Rel w (w.heap.size + 1 + 1) (w.heap.size + 1) w.heap.size len F P q (.int .i64 0) w1 :=
        ⟨0, _, by omega, rfl, ok_new f1 f2 p1 p2, hA, (Blk.new _ _ _).below hb (by omega), ((Below.refl _ _).alloc (Nat.le_refl _) _).trans (hb.mono (by omega))⟩
      clear hA hb
      go_wp2
      go_loopw [7] (fun i wr => Rel w (w.heap.size + 1 + 1) (w.heap.size + 1) w.heap.size len F P q i wr) (fun i _ => len - (intOf i).toNat)
      case atStart => exact hR
      case round =>
        obtain ⟨k, a, hk, rfl, ok, hA, hQ, hb⟩ := hrel
        clear hR
        by_cases hlt : k < len
        · obtain ⟨x, hxk⟩ : ∃ x, xs[k]? = some x := ⟨xs[k]'(by rw [HX.out.1]; exact hlt), List.getElem?_eq_getElem _⟩
          obtain ⟨b, o, rfl, hbl, hc0, hc1, hc2, hr1, hr2⟩ := HX.out.2.2 k x hxk
          obtain ⟨c, per, vol⟩ := x
          have e0 := hb.cell (p := ⟨b, o + k * 3, none⟩) hbl
          have e1 := hb.cell (p := ⟨b, o + k * 3 + 1, none⟩) hbl
          have e2 := hb.cell (p := ⟨b, o + k * 3 + 2, none⟩) hbl
          rw [hc0] at e0
          rw [hc1] at e1
          rw [hc2] at e2
          simp only at e0 e1 e2 hr1 hr2
          clear hc0 hc1 hc2 hxk
          have hwr := hb.size
          have i1 : (0 : Int) ≤ (k : Int) := by omega
          have i2 : (k : Int) < (len : Int) := by omega
          have y2 := hQ.cell 2
          simp at y2
          go_wp2
          go_quiet (fail)
          rename_i nq
          have hAd : IsA (wr.drewN nq) (w.heap.size + 1 + 1) (w.heap.size + 1) a := hA
          have hsd : Same wr (wr.drewN nq) := Same.drewN _ _
          go_wp2_with fail
          refine (left_to hAd ok rfl).mono ?_
          rintro e w2 ⟨rfl, hA2, hs2⟩
          have S2 := hsd.trans hs2
          clear hAd hs2 hsd
          go_wp2_with fail
          refine (expired_to hA2 ok rfl).mono ?_
          rintro e w3 ⟨rfl, hA3, hs3⟩
          have S3 := S2.trans hs3
          clear hA2 S2 hs3
          go_wp2_with fail
          refine (left_to hA3 ok rfl).mono ?_
          rintro e w4 ⟨rfl, hA4, hs4⟩
          have S4 := S3.trans hs4
          clear hA3 S3 hs4
          go_wp2_with fail
          refine (totals_to hA4 rfl rfl).mono ?_
          rintro e w5 ⟨rfl, hA5, hs5⟩
          have S5 := S4.trans hs5
          clear hA4 S4 hs5
          have E5 := S5.block b (by omega) (fun x => x)
          have g0 : w5.cell? ⟨b, o + k * 3, none⟩ = some (.bool c) := by rw [← e0]; unfold World.cell?; rw [E5]
          have g1 : w5.cell? ⟨b, o + k * 3 + 1, none⟩ = some (.int .i64 per) := by rw [← e1]; unfold World.cell?; rw [E5]
          have g2 : w5.cell? ⟨b, o + k * 3 + 2, none⟩ = some (.int .i64 vol) := by rw [← e2]; unfold World.cell?; rw [E5]
          have hQ5 := hQ.fr S5 (fun x => x)
          have hb5 := hb.trans (Fr.below S5 hwr (fun i _ x => x.elim))
          have hl5 := S5.size
          clear e0 e1 e2 E5 S5 hQ hb hA y2
          go_wp2_with fail
          refine (do_any _ _ k a c per vol w5 hA5 ok).mono ?_
          rintro e w6 ⟨rfl, hA6, hf6⟩
          have hb6 := hb5.trans (hf6.below hb5.size (fun i _ h => by omega))
          have ok6 := Ac.step_ok ok (by omega) c per vol
          have E6 := hf6.block b (by omega) (by omega)
          have f0 : w6.cell? ⟨b, o + k * 3, none⟩ = some (.bool c) := by rw [← g0]; unfold World.cell?; rw [E6]
          have f1' : w6.cell? ⟨b, o + k * 3 + 1, none⟩ = some (.int .i64 per) := by rw [← g1]; unfold World.cell?; rw [E6]
          have f2' : w6.cell? ⟨b, o + k * 3 + 2, none⟩ = some (.int .i64 vol) := by rw [← g2]; unfold World.cell?; rw [E6]
          have hQ6 := hQ5.fr hf6 (by omega)
          have hseen := step_seen ok (by omega) c per vol q
          have hl6 := hf6.size
          clear g0 g1 g2 E6 hf6 hQ5 hb5 hA5
          generalize a.step c per vol = y at hA6 ok6 hseen ⊢
          obtain ⟨a', code⟩ := y
          simp only at hA6 ok6 hseen
          have B1 := left_bd ok per
          have B2 := left_bd ok6 per
          have B3 := left_bd ok q
          have B4 := left_bd ok6 q
          have B5 := expired_bd ok q
          have B6 := expired_bd ok6 q
          have B7 : 0 ≤ a.cr ∧ a.cr ≤ 225179981368524800 := by have := ok.bd 0 (a.T + 1).toNat; have := ok.tot; have := ok.c0; have := ok.c1; have := ok.kk; omega
          have B8 : 0 ≤ a'.cr ∧ a'.cr ≤ 225179981368524800 := by have := ok6.bd 0 (a'.T + 1).toNat; have := ok6.tot; have := ok6.c0; have := ok6.c1; have := ok6.kk; omega
          have B9 : 0 ≤ a.cl ∧ a.cl ≤ 225179981368524800 := by have := ok.bd 0 (a.T + 1).toNat; have := ok.tot; have := ok.c0; omega
          go_wp2_with fail
          refine (totals_to hA6 rfl rfl).mono ?_
          rintro e w7 ⟨rfl, hA7, hs7⟩
          have E7 := hs7.block b (by omega) (fun x => x)
          have g0 : w7.cell? ⟨b, o + k * 3, none⟩ = some (.bool c) := by rw [← f0]; unfold World.cell?; rw [E7]
          have g1 : w7.cell? ⟨b, o + k * 3 + 1, none⟩ = some (.int .i64 per) := by rw [← f1']; unfold World.cell?; rw [E7]
          have g2 : w7.cell? ⟨b, o + k * 3 + 2, none⟩ = some (.int .i64 vol) := by rw [← f2']; unfold World.cell?; rw [E7]
          have hQ7 := hQ6.fr hs7 (fun x => x)
          have hb7 := hb6.trans (Fr.below hs7 hb6.size (fun i _ x => x.elim))
          have hl7 := hs7.size
          clear f0 f1' f2' E7 hs7 hQ6 hb6 hA6
          rcases hseen with ⟨hc, hae⟩ | ⟨hc, rfl, v1, v2, v3⟩ | ⟨hc, rfl, v1, v2, v3, v4, v5, v6, v7, v8⟩
          · subst hae
            have k1 : (code != 0) = true := by simpa using hc
            clear hc
            go_wp2_with fail
            refine (left_to hA7 ok6 rfl).mono ?_
            rintro e w8 ⟨rfl, hA8, hs8⟩
            go_wp2_with fail
            refine (expired_to hA8 ok6 rfl).mono ?_
            rintro e w9 ⟨rfl, hA9, hs9⟩
            go_wp2_with fail
            refine (left_to hA9 ok6 rfl).mono ?_
            rintro e w10 ⟨rfl, hA10, hs10⟩
            have S10 := (hs8.trans hs9).trans hs10
            have HE : Hid (Rel w (w.heap.size + 1 + 1) (w.heap.size + 1) w.heap.size len F P q (.int .i64 ((k : Int) + 1)) w10) := ⟨k + 1, a', by omega, by simp, ok6, hA10, hQ7.fr S10 (fun x => x), hb7.trans (Fr.below S10 hb7.size (fun i _ x => x.elim))⟩
            clear hA7 hA8 hA9 hA10 hs8 hs9 hs10 S10 hQ7 hb7
            go_wp2
            go_roundw
            case rel => exact HE.out
            case measure => simp [intOf]; omega
          · subst hc
            have kl : (a'.cl != a.cl) = false := by simpa using v2
            have kv : (a'.left per != a.left per + a'.cr - a.cr) = false := by simpa using v3
            clear v2 v3
            go_wp2_with fail
            refine (left_to hA7 ok6 rfl).mono ?_
            rintro e w8 ⟨rfl, hA8, hs8⟩
            have HE : Hid (Rel w (w.heap.size + 1 + 1) (w.heap.size + 1) w.heap.size len F P q (.int .i64 ((k : Int) + 1)) w8) := ⟨k + 1, a', by omega, by simp, ok6, hA8, hQ7.fr hs8 (fun x => x), hb7.trans (Fr.below hs8 hb7.size (fun i _ x => x.elim))⟩
            clear hA7 hA8 hs8 hQ7 hb7
            go_wp2
            go_roundw
            case rel => exact HE.out
            case measure => simp [intOf]; omega
          · subst hc
            have k1 : (a'.cr != a.cr) = false := by simpa using v3
            have k2 : (a'.cl != a.cl + vol) = false := by simpa using v4
            have k3 : (a'.left per != a.left per - vol) = false := by simpa using v5
            have k4 : decide (a.expired q < a'.expired q) = false := by simpa using v6
            have k5 : decide (a'.expired q < a.expired q - vol) = false := by simpa using v7
            have k6 : decide (a.left q < a'.left q) = false := by simpa using v8
            have hS2 : S2 w (w.heap.size + 1 + 1) (w.heap.size + 1) w.heap.size F P q a' w7 := ⟨hA7, hQ7, hb7⟩
            have kr : IntKind.i64.wrap (a.cl + vol) = a.cl + vol := IntWalk.i64_in _ (by omega)
            have kr2 : IntKind.i64.wrap (a.left per - vol) = a.left per - vol := IntWalk.i64_in _ (by omega)
            have kr3 : IntKind.i64.wrap (a.expired q - vol) = a.expired q - vol := IntWalk.i64_in _ (by omega)
            clear v3 v4 v5 v6 v7 v8 hA7 hQ7 hb7 g1
            go_wp2
            clear g0
            go_region_held3 (fun W => W.cell? ⟨b, o + k * 3 + 2, none⟩ = some (.int .i64 vol) ∧ S2 w (w.heap.size + 1 + 1) (w.heap.size + 1) w.heap.size F P q a' W)
              (first | exact ⟨g2, S2.drew hS2⟩ | ((try go_split_ands); exact ⟨same_cell hs8 (by assumption), S2.same hs8 (by assumption)⟩))
              (first | (go_at_call 15; (try go_split_ands); refine (left_to (S2.isA (by assumption)) ok6 rfl).mono ?_; rintro e w8 ⟨rfl, hA8, hs8⟩) | (go_at_call 16; (try go_split_ands); refine (expired_to (S2.isA (by assumption)) ok6 rfl).mono ?_; rintro e w8 ⟨rfl, hA8, hs8⟩))
            rename_i hHeld
            have HE : Hid (∀ W, S2 w (w.heap.size + 1 + 1) (w.heap.size + 1) w.heap.size F P q a' W → Rel w (w.heap.size + 1 + 1) (w.heap.size + 1) w.heap.size len F P q (.int .i64 ((k : Int) + 1)) W) := fun W hW => ⟨k + 1, a', by omega, by simp, ok6, hW.1, hW.2.1, hW.2.2⟩
            go_wp2
            go_roundw
            case rel => exact HE.out _ hHeld.2
            case measure => simp [intOf]; omega
        · go_wp2_with fail
          refine (awake_any _).mono ?_
          rintro e w3 ⟨rfl, hb3⟩
          go_wp2
          go_ret
          exact ⟨rfl, hb.trans (hb3.mono hb.size)⟩

theorem own : ownKnob Try.prog.godebug = none := by kernel_rfl
theorem laidOut : laidOutB Try.prog = true := by kernel_rfl

set_option maxRecDepth 100000 in
theorem lifted (os : Os) (started : os.Started) (H : Type) (enc : TypeId × Value → H) :
    ReturnsInHanded {} Try.checked os 5 .any (Rows.claimOldestSpec.pre6 enc Try.prog Try.f5 Rows.claimOldestRow.domain false) (Rows.claimOldestSpec.post enc Try.prog Try.f5 false true false false) := by
  refine returnsInHanded_of_change (C := Try.checked) own started (by kernel_rfl) Try.func5
    (ChangeSpec.witness6 (enc := enc) (C := Try.checked) false ⟨#[], #[.agg #[.int .i64 0, .int .i64 0, .int .i64 0], .slice none 0 0], []⟩ 8 (by kernel_rfl) (by kernel_rfl) (by kernel_rfl) (by kernel_rfl)) ?_
  intro W base args ds gs before hval0 hW hcnd _
  have hval : ∀ (j : Nat) t v, Try.f5.params[j]? = some t → args[j]? = some v → Value.okWide Try.prog W .any base t v := hval0
  have hW' := hW
  obtain ⟨p, q, hA0, hV, rfl, hfz, hnd⟩ := hW
  have hA : DataW.TrodAll enc Try.prog W 0 (fun _ => true) true Try.f5.params.toList args.toList ds p := hA0
  rw [Try.params5] at hA hval
  obtain ⟨v0, vs0, d0, ds0, p0, q0, hargs, rfl, rfl, h0, r0⟩ := trodAll_cons hA
  obtain ⟨v1, vs1, d1, ds1, p1, q1, rfl, rfl, rfl, h1, r1⟩ := trodAll_cons r0
  obtain ⟨rfl, rfl, rfl⟩ := trodAll_nil r1
  obtain rfl : args = #[v0, v1] := by cases args; simp_all
  obtain ⟨rfl, rfl⟩ := trodVars_none hV
  have k0 := h0
  have lt0 : ∀ x ∈ p0, x.block < W.heap.size := by obtain ⟨m, hm⟩ := k0; exact DataW.trod_lt m _ _ _ hm
  have ok0 := hval 0 22 v0 rfl rfl
  obtain ⟨x0, y0, z0, rfl, hz0, hy0⟩ := open_three ok0 h0
  have k1 := h1
  have lt1 : ∀ x ∈ p1, x.block < W.heap.size := by obtain ⟨m, hm⟩ := k1; exact DataW.trod_lt m _ _ _ hm
  have ok1 := hval 1 23 v1 rfl rfl
  obtain ⟨A1, len1, cap1, xs1, rfl, hx1⟩ := open_steps ok1 h1
  clear hA0 hval0
  refine (walk x0 y0 z0 A1 len1 cap1 xs1 W hx1).mono fun e W' ⟨he, bel⟩ => ?_
  subst he
  exact ⟨_, rfl, _, _, _, [], _, [], hW', trodAll_mk1 (shut_bool Try.underlying4 _), (trodAll_cons_mk (Below.trod laidOut (by kernel_rfl) (of_decide_eq_true (by kernel_rfl)) k0 bel lt0) (trodAll_cons_mk (Below.trod laidOut (by kernel_rfl) (of_decide_eq_true (by kernel_rfl)) k1 bel lt1) trodAll_mk0)), rfl, bel.frame _, fun h => by cases h⟩

theorem over : Rows.claimOldestRow.holds Try.pinned (OpenSpec.ofChange Rows.claimOldestSpec) :=
  OpenClaim.holds_of_wide 5 Try.f5 rfl rfl rfl rfl rfl rfl rfl ⟨rfl, rfl, rfl, rfl, rfl⟩ rfl rfl rfl rfl rfl (by kernel_rfl) Try.func5 (by kernel_rfl)
    (of_decide_eq_true (by kernel_rfl)) (by unfold Func.isWrapper; first | (rw [if_pos (by decide +kernel)]; kernel_rfl) | (rw [if_neg (by decide +kernel)]; exact ⟨rfl, rfl⟩))
    (fun os started H enc _ => lifted os started H enc)

theorem proved : Rows.ClaimOldestSaid := over
end Go.Proofs.Ytpapgldjmglaiaa.claimOldest
