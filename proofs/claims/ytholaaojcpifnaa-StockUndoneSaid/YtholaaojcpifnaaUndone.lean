/-
  StockUndone returns true for every list of calls and all orders.
-/
import Derived.Test.YtholaaojcpifnaaWalkh
import Derived.Test.YtholaaojcpifnaaPlainb
namespace Go.Proofs.Ytholaaojcpifnaa.stockUndone
open Go.ChangeShapes Go.WideShapes Go.ChangeAt Go.RowKit

theorem open_str {H : Type} {enc : TypeId × Value → H} {W : World} {b0 : Nat} {r : Reach} {base : Nat} {sp : Nat → Bool} {hd : Bool} {v : Value} {d : DataW H} {p : List MemPlace} (hv : Value.okWide Try.prog W r b0 9 v)
    (h : DataW.Trod enc Try.prog W base sp hd 9 v d p) : ∃ s : Bs, v = .string s ∧ s.size ≤ 9223372036854775807 := by
  obtain ⟨s, rfl⟩ := okWide_string Try.underlying9 hv
  obtain ⟨fuel, hf⟩ := h
  obtain ⟨s', hs, _, hw⟩ := DataW.trod_string Try.underlying9 hf
  simp [Value.cells] at hs
  subst hs
  unfold maxLen at hw
  exact ⟨s, rfl, by omega⟩

/-- What holds at the head of each round of the first loop. -/
def Rel (w w1 : World) (len : Nat) (i : Value) (wr : World) : Prop :=
  ∃ (k : Nat) (s : Stk), k ≤ len ∧ i = .int .i64 k ∧ SB w (fun _ => False) wr (w1.heap.size + 1) w1.heap.size s

/-- What holds at the head of each round of the second loop. s2: the stock behind the first release; fr: its free items; ho: what is held for the other order. -/
def Rel2 (w : World) (g r : Nat) (s2 : Stk) (order other : Bs) (Af Ah : Option Addr) (n i : Value) (wr : World) : Prop :=
  ∃ (j : Nat) (s : Stk), n = .int .i64 j ∧ i = .int .i64 (2 * j) ∧ 2 * j ≤ (withs s2 nul).length + 1 ∧ SB w (fun i => (False ∨ InA Af i) ∨ InA Ah i) wr g r s ∧ RS wr Af (withs s2 nul).length (withs s2 nul) ∧ RS wr Ah (held s2 other).length (held s2 other) ∧
    (withs s order).length = j ∧ (withs s nul).length + j = (withs s2 nul).length ∧ held s other = held s2 other ∧ sRelease s order = s2 ∧ ∀ (a : Nat) (x : Bs), 2 * j ≤ a → (withs s2 nul)[a]? = some x → getG s x = some nul

theorem rel2_next {w wr w' : World} {g r : Nat} {s2 s : Stk} {order other x : Bs} {Af Ah : Option Addr} {j : Nat} (ok2 : SOk s2) (ok : SOk s) (ho : order ≠ nul) (hoo : order ≠ other) (hx : (withs s2 nul)[2 * j]? = some x) (hgx : getG s x = some nul)
    (hf : RS wr Af (withs s2 nul).length (withs s2 nul)) (hh : RS wr Ah (held s2 other).length (held s2 other)) (e1 : (withs s order).length = j) (e2 : (withs s nul).length + j = (withs s2 nul).length) (e3 : held s other = held s2 other) (e4 : sRelease s order = s2)
    (e5 : ∀ (a : Nat) (x : Bs), 2 * j ≤ a → (withs s2 nul)[a]? = some x → getG s x = some nul)
    (hS : SB w (fun i => (False ∨ InA Af i) ∨ InA Ah i) w' g r (setO s x order)) (hfr : Fr (fun i => ¬ ((False ∨ InA Af i) ∨ InA Ah i)) wr w') :
    Rel2 w g r s2 order other Af Ah (.int .i64 ((j : Int) + 1)) (.int .i64 (2 * (j : Int) + 2)) w' := by
  obtain ⟨c1, c2, c3⟩ := setO_count ok.nd ho hgx
  have hlt : 2 * j < (withs s2 nul).length := (List.getElem?_eq_some_iff.1 hx).1
  refine ⟨j + 1, setO s x order, by simp, by simp; omega, by omega, hS, hf.keep hfr (fun i hi => .inl (.inr hi)), hh.keep hfr (fun i hi => .inr hi), by omega, by omega, ?_, by rw [release_setO ok.nd ho hgx]; exact e4, fun a y ha hy => ?_⟩
  · rw [← e3]
    by_cases h1 : other = nul
    · rw [h1, held_nul, held_nul]
    · rw [held_ne _ h1, held_ne _ h1]
      exact c3 other (Ne.symm hoo) h1
  · rw [setO_get, if_neg ?_]
    · exact e5 a y (by omega) hy
    · intro e
      subst e
      have hnd := withs_nodup ok2 nul
      obtain ⟨l1, m1⟩ := List.getElem?_eq_some_iff.1 hx
      obtain ⟨l2, m2⟩ := List.getElem?_eq_some_iff.1 hy
      have := (List.getElem_inj hnd).1 (m1.trans m2.symm)
      omega

set_option maxRecDepth 100000 in
set_option maxHeartbeats 4000000 in
theorem walk (A : Option Addr) (len cap : Nat) (xs : List OpD) (order other : Bs) (w : World) (hx : IsOps w A len xs) (so : order.size ≤ 9223372036854775807) (st : other.size ≤ 9223372036854775807) :
    Calls Try.prog 6 #[.slice A len cap, .string order, .string other] w fun e w' => e = .returned (.bool true) ∧ Below w.heap.size w w' := by
  have hml := hx.2.1
  have HX := Lib.hid hx
  go_enter Try.func6, Try.ntmps6
  go_wp2_with fail
  refine (small_any A len cap xs w hx).mono ?_
  rintro e w' ⟨b, rfl, rfl, hb⟩
  clear hx
  cases b with
  | false =>
    clear hb
    go_wp2_with fail
    refine (awake_any _).mono ?_
    rintro e w2 ⟨rfl, hb2⟩
    go_wp2
    go_ret
    exact ⟨rfl, hb2⟩
  | true =>
    have hlen := hb rfl
    clear hb
    by_cases o1 : (order.size : Int) > 100
    · go_wp2_with fail
      refine (awake_any _).mono ?_
      rintro e w2 ⟨rfl, hb2⟩
      go_wp2
      go_ret
      exact ⟨rfl, hb2⟩
    · by_cases o2 : (other.size : Int) > 100
      · go_wp2_with fail
        refine (awake_any _).mono ?_
        rintro e w2 ⟨rfl, hb2⟩
        go_wp2
        go_ret
        exact ⟨rfl, hb2⟩
      · go_wp2_with fail
        refine (new_sb w).mono ?_
        rintro e w1 ⟨rfl, h1⟩
        have hR : Rel w w len (.int .i64 0) w1 := ⟨0, [], by omega, rfl, h1⟩
        clear h1
        go_wp2
        go_loopw [8] (fun i wr => Rel w w len i wr) (fun i _ => len - (intOf i).toNat)
        case atStart => exact hR
        case round =>
          obtain ⟨k, s, hk, rfl, h1⟩ := hrel
          clear hR
          have hbel := h1.bel
          by_cases hlt : k < len
          · obtain ⟨x, hxk⟩ : ∃ x, xs[k]? = some x := ⟨xs[k]'(by rw [HX.out.1]; exact hlt), List.getElem?_eq_getElem _⟩
            obtain ⟨b, o, rfl, hbl, hc0, hc1, hc2, hwf⟩ := HX.out.2.2 k x hxk
            have e0 := (hbel.cell (p := ⟨b, o + k * 3, none⟩) hbl).trans hc0
            have e1 := (hbel.cell (p := ⟨b, o + k * 3 + 1, none⟩) hbl).trans hc1
            have e2 := (hbel.cell (p := ⟨b, o + k * 3 + 2, none⟩) hbl).trans hc2
            clear hc0 hc1 hc2 hxk
            go_wp2_with fail
            refine (do_sb x h1).mono ?_
            rintro e w3 ⟨A3, c3, rfl, _, f3, h3⟩
            have HE : Hid (Rel w w len (.int .i64 ((k : Int) + 1)) w3) := ⟨k + 1, (sDo s x).1, by omega, by simp, h3.mono fun i hi => hi.elim⟩
            clear h1 h3 f3 e0 e1 e2
            go_wp2
            go_roundw
            case rel => exact HE.out
            case measure => simp [intOf]; omega
          · have ok1 := h1.ok
            by_cases ho : order = nul
            · have k0 := eq_of ho
              clear ho
              go_wp2_with fail
              refine (release_to (o := nul) (n := 0) h1 (release_nul s) (by rw [held_nul]; rfl)).mono ?_
              rintro e w3 ⟨rfl, h3, _⟩
              clear h1 hbel
              go_wp2_with fail
              refine (remove_to (o := nul) h3 (held_nul s) (remove_nul s)).mono ?_
              rintro e w4 ⟨A4, c4, rfl, _, _, h4⟩
              clear h3
              go_wp2_with fail
              refine (held_to (o := nul) h4 (held_nul s)).mono ?_
              rintro e w5 ⟨A5, c5, rfl, _, _, h5⟩
              clear h4
              go_wp2_with fail
              refine (awake_any _).mono ?_
              rintro e w6 ⟨rfl, hb6⟩
              go_wp2
              go_ret
              exact ⟨rfl, h5.bel.trans (hb6.mono h5.bel.size)⟩
            · by_cases hoo : order = other
              · have k0 := ne_of ho
                have k1 : (order.toList == other.toList) = true := (Lib.bytes_beq_iff order other).2 hoo
                clear ho hoo
                go_wp2_with fail
                refine (release_to (o := nul) (n := 0) h1 (release_nul s) (by rw [held_nul]; rfl)).mono ?_
                rintro e w3 ⟨rfl, h3, _⟩
                clear h1 hbel
                go_wp2_with fail
                refine (remove_to (o := nul) h3 (held_nul s) (remove_nul s)).mono ?_
                rintro e w4 ⟨A4, c4, rfl, _, _, h4⟩
                clear h3
                go_wp2_with fail
                refine (held_to (o := nul) h4 (held_nul s)).mono ?_
                rintro e w5 ⟨A5, c5, rfl, _, _, h5⟩
                clear h4
                go_wp2_with fail
                refine (awake_any _).mono ?_
                rintro e w6 ⟨rfl, hb6⟩
                go_wp2
                go_ret
                exact ⟨rfl, h5.bel.trans (hb6.mono h5.bel.size)⟩
              · have k0 := ne_of ho
                have k1 : (order.toList == other.toList) = false := (Lib.bytes_beq_false_iff order other).2 hoo
                have HO := Lib.hid ho
                have HOO := Lib.hid hoo
                clear ho hoo
                go_wp2_with fail
                refine (release_sb h1).mono ?_
                rintro e w3 ⟨rfl, h3, _⟩
                clear h1 hbel
                have r1 := held_release s HO.out
                have r2 := release_idem s HO.out
                have ok2 := h3.ok
                generalize sRelease s order = s2 at h3 r1 r2 ok2
                go_wp2_with fail
                refine (free_sb h3).mono ?_
                rintro e w4 ⟨Af, cf, rfl, rf, s4, h4⟩
                clear h3
                go_wp2_with fail
                refine (held_sb (o := other) h4).mono ?_
                rintro e w5 ⟨Ah, ch, rfl, rh, s5, h5⟩
                have rf5 := rf.same s5
                clear rf s4 s5 h4
                have hR2 : Rel2 w (w.heap.size + 1) w.heap.size s2 order other Af Ah (.int .i64 0) (.int .i64 0) w5 :=
                  ⟨0, s2, rfl, rfl, by omega, h5, rf5, rh, by rw [r1]; rfl, by omega, rfl, r2, fun a x _ hx => withs_get ok2 (List.mem_of_getElem? hx)⟩
                have hfl : (withs s2 nul).length ≤ 512 := Nat.le_trans (withs_le _ _) ok2.le
                have hhl : (held s2 other).length ≤ 512 := Nat.le_trans (held_le _ _) ok2.le
                have hfl2 : ((withs s2 nul).length : Int) ≤ 512 := by omega
                have hhl2 : ((held s2 other).length : Int) ≤ 512 := by omega
                clear h5 rf5 rh r1 r2
                go_wp2
                go_loopw [11, 12] (fun n i wr => Rel2 w (w.heap.size + 1) w.heap.size s2 order other Af Ah n i wr) (fun _ i _ => (withs s2 nul).length + 1 - (intOf i).toNat)
                case atStart => exact hR2
                case round =>
                  obtain ⟨j, s, rfl, rfl, hj, h6, rf, rh, e1, e2, e3, e4, e5⟩ := hrel
                  clear hR2
                  by_cases hlt2 : 2 * j < (withs s2 nul).length
                  · obtain ⟨x, hx⟩ : ∃ x, (withs s2 nul)[2 * j]? = some x := ⟨(withs s2 nul)[2 * j], List.getElem?_eq_getElem hlt2⟩
                    have hgx := e5 (2 * j) x (Nat.le_refl _) hx
                    obtain ⟨gf, of, hAf, hcf, _⟩ := rf.2.2 (2 * j) x hx
                    have hcf0 : wr.cell? ⟨gf, of + 2 * j, none⟩ = some (.string x) := hcf
                    have i1 : (2 : Int) * (j : Int) < ((withs s2 nul).length : Int) := by omega
                    have i0 : (0 : Int) ≤ (2 : Int) * (j : Int) := by omega
                    have i3 : ((2 : Int) * (j : Int)).toNat = 2 * j := by omega
                    subst hAf
                    have er : sReserve s x order = (setO s x order, 0) := by unfold sReserve; rw [if_neg HO.out, hgx]; simp
                    have er2 : ∀ y : Bs, y.size ≠ 0 → sReserve (setO s x order) x y = (setO s x order, 14) := by
                      intro y hy
                      unfold sReserve
                      rw [if_neg (by intro e; rw [e] at hy; exact hy rfl), setO_get, if_pos rfl, hgx]
                      simp [HO.out]
                    have ER := Lib.hid er
                    have ER2 := Lib.hid er2
                    have HN := Lib.hid (fun w' hS hfr => rel2_next (g := w.heap.size + 1) (r := w.heap.size) (w := w) (wr := wr) (w' := w') ok2 h6.ok HO.out HOO.out hx hgx rf rh e1 e2 e3 e4 e5 hS hfr)
                    have KC : Hid (∀ w' : World, Fr (fun i => ¬ ((False ∨ InA (some ⟨gf, of, none⟩) i) ∨ InA Ah i)) wr w' → w'.cell? ⟨gf, of + 2 * j, none⟩ = some (.string x)) := fun w' f => ((rf.keep f (fun i hi => .inl (.inr hi))).2.2 (2 * j) x hx).elim fun g1 h => h.elim fun o1 h => by obtain ⟨ha, hc, _⟩ := h; cases ha; exact hc
                    clear er er2 hx hgx e1 e2 e3 e4 e5 hcf
                    go_wp2_with fail
                    refine (reserve_to (x := x) (o := order) h6 ER.out).mono ?_
                    rintro e w7 ⟨rfl, h7, f7⟩
                    have hcf1 : w7.cell? ⟨gf, of + 2 * j, none⟩ = some (.string x) := KC.out w7 f7
                    clear h6
                    go_wp2_with fail
                    refine (reserve_to h7 (ER2.out _ ?_)).mono ?_
                    · rw [ByteArray.size_append]
                      exact Nat.ne_of_gt (Nat.add_pos_right _ (by decide))
                    rintro e w8 ⟨rfl, h8, f8⟩
                    have HR := Lib.hid (HN.out w8 h8 (f7.trans f8))
                    clear h7 h8 f7 f8 hcf0 hcf1
                    go_wp2
                    go_roundw
                    case rel => exact HR.out
                    case measure => simp [intOf]; omega
                  · have hu : held s order = withs s order := held_ne _ HO.out
                    have hl2 : ((held s order).length : Int) = (j : Int) := by rw [hu]; omega
                    have hl3 : ((withs s nul).length : Int) = ((withs s2 nul).length : Int) - (j : Int) := by omega
                    have hl4 : (held s order).length = j := by rw [hu]; omega
                    have hz : held s2 order = [] := by rw [← e4, held_ne _ HO.out]; exact held_release s HO.out
                    clear hu e5
                    go_wp2_with fail
                    refine (held_sb (o := order) h6).mono ?_
                    rintro e w7 ⟨A7, c7, rfl, _, s7, h7⟩
                    replace rf := rf.same s7
                    replace rh := rh.same s7
                    clear h6 s7
                    go_wp2_with fail
                    refine (free_sb h7).mono ?_
                    rintro e w8 ⟨A8, c8, rfl, _, s8, h8⟩
                    replace rf := rf.same s8
                    replace rh := rh.same s8
                    clear h7 s8
                    go_wp2_with fail
                    refine (held_to (o := other) h8 e3).mono ?_
                    rintro e w9 ⟨A9, c9, rfl, r9, s9, h9⟩
                    replace rf := rf.same s9
                    replace rh := rh.same s9
                    clear h8 s9
                    go_wp2_with fail
                    refine (same_rs r9 rh).mono ?_
                    rintro e wa ⟨rfl, sa⟩
                    replace rf := rf.same sa
                    replace rh := rh.same sa
                    have ha := h9.same sa
                    clear h9 sa r9
                    go_wp2_with fail
                    refine (release_to (o := order) ha e4 hl4).mono ?_
                    rintro e wb ⟨rfl, hb, fb⟩
                    replace rf := rf.keep fb (fun i hi => .inl (.inl (.inl (.inl (.inr hi)))))
                    replace rh := rh.keep fb (fun i hi => .inl (.inl (.inl (.inr hi))))
                    clear ha fb
                    go_wp2_with fail
                    refine (free_sb hb).mono ?_
                    rintro e wc ⟨Ac, cc, rfl, rc, sc, hc⟩
                    replace rf := rf.same sc
                    replace rh := rh.same sc
                    clear hb sc
                    go_wp2_with fail
                    refine (same_rs rc rf).mono ?_
                    rintro e wd ⟨rfl, sd⟩
                    replace rh := rh.same sd
                    have hd := hc.same sd
                    clear hc sd rc rf
                    go_wp2_with fail
                    refine (held_to (o := order) hd hz).mono ?_
                    rintro e we ⟨Ae, ce, rfl, _, se, he⟩
                    replace rh := rh.same se
                    clear hd se
                    go_wp2_with fail
                    refine (held_sb (o := other) he).mono ?_
                    rintro e wf ⟨Ag, cg, rfl, rg, sf, hf⟩
                    replace rh := rh.same sf
                    clear he sf
                    go_wp2_with fail
                    refine (same_rs rg rh).mono ?_
                    rintro e wg ⟨rfl, sg⟩
                    have hg := hf.same sg
                    clear hf sg rg rh
                    go_wp2_with fail
                    refine (awake_any _).mono ?_
                    rintro e wh ⟨rfl, hb6⟩
                    go_wp2
                    go_ret
                    exact ⟨rfl, hg.bel.trans (hb6.mono hg.bel.size)⟩

theorem own : ownKnob Try.prog.godebug = none := by kernel_rfl
theorem laidOut : laidOutB Try.prog = true := by kernel_rfl

set_option maxRecDepth 100000 in
theorem lifted (os : Os) (started : os.Started) (H : Type) (enc : TypeId × Value → H) :
    ReturnsInHanded {} Try.checked os 6 .any (Rows.stockUndoneSpec.pre6 enc Try.prog Try.f6 Rows.stockUndoneRow.domain false) (Rows.stockUndoneSpec.post enc Try.prog Try.f6 false true false false) := by
  refine returnsInHanded_of_change (C := Try.checked) own started (by kernel_rfl) Try.func6
    (ChangeSpec.witness6 (enc := enc) (C := Try.checked) false ⟨#[], #[.slice none 0 0, .string ⟨#[]⟩, .string ⟨#[]⟩], []⟩ 8 (by kernel_rfl) (by kernel_rfl) (by kernel_rfl) (by kernel_rfl)) ?_
  intro W base args ds gs before hval0 hW hcnd _
  have hval : ∀ (j : Nat) t v, Try.f6.params[j]? = some t → args[j]? = some v → Value.okWide Try.prog W .any base t v := hval0
  have hW' := hW
  obtain ⟨p, q, hA0, hV, rfl, hfz, hnd⟩ := hW
  have hA : DataW.TrodAll enc Try.prog W 0 (fun _ => true) true Try.f6.params.toList args.toList ds p := hA0
  rw [Try.params6] at hA hval
  obtain ⟨v0, vs0, d0, ds0, p0, q0, hargs, rfl, rfl, h0, r0⟩ := trodAll_cons hA
  obtain ⟨v1, vs1, d1, ds1, p1, q1, rfl, rfl, rfl, h1, r1⟩ := trodAll_cons r0
  obtain ⟨v2, vs2, d2, ds2, p2, q2, rfl, rfl, rfl, h2, r2⟩ := trodAll_cons r1
  obtain ⟨rfl, rfl, rfl⟩ := trodAll_nil r2
  obtain rfl : args = #[v0, v1, v2] := by cases args; simp_all
  obtain ⟨rfl, rfl⟩ := trodVars_none hV
  have k0 := h0
  have lt0 : ∀ x ∈ p0, x.block < W.heap.size := by obtain ⟨m, hm⟩ := k0; exact DataW.trod_lt m _ _ _ hm
  have ok0 := hval 0 22 v0 rfl rfl
  obtain ⟨A0, len0, cap0, xs0, rfl, hx0⟩ := open_ops ok0 h0
  have k1 := h1
  have lt1 : ∀ x ∈ p1, x.block < W.heap.size := by obtain ⟨m, hm⟩ := k1; exact DataW.trod_lt m _ _ _ hm
  have ok1 := hval 1 9 v1 rfl rfl
  obtain ⟨s1, rfl, hs1⟩ := open_str ok1 h1
  have k2 := h2
  have lt2 : ∀ x ∈ p2, x.block < W.heap.size := by obtain ⟨m, hm⟩ := k2; exact DataW.trod_lt m _ _ _ hm
  have ok2 := hval 2 9 v2 rfl rfl
  obtain ⟨s2, rfl, hs2⟩ := open_str ok2 h2
  clear hA0 hval0
  refine (walk A0 len0 cap0 xs0 s1 s2 W hx0 hs1 hs2).mono fun e W' ⟨he, bel⟩ => ?_
  subst he
  exact ⟨_, rfl, _, _, _, [], _, [], hW', trodAll_mk1 (shut_bool Try.underlying4 _), (trodAll_cons_mk (Below.trod laidOut (by kernel_rfl) (of_decide_eq_true (by kernel_rfl)) k0 bel lt0) (trodAll_cons_mk (Below.trod laidOut (by kernel_rfl) (of_decide_eq_true (by kernel_rfl)) k1 bel lt1) (trodAll_cons_mk (Below.trod laidOut (by kernel_rfl) (of_decide_eq_true (by kernel_rfl)) k2 bel lt2) trodAll_mk0))), rfl, bel.frame _, fun h => by cases h⟩

theorem over : Rows.stockUndoneRow.holds Try.pinned (OpenSpec.ofChange Rows.stockUndoneSpec) :=
  OpenClaim.holds_of_wide 6 Try.f6 rfl rfl rfl rfl rfl rfl rfl ⟨rfl, rfl, rfl, rfl, rfl⟩ rfl rfl rfl rfl rfl (by kernel_rfl) Try.func6 (by kernel_rfl)
    (of_decide_eq_true (by kernel_rfl)) (by unfold Func.isWrapper; first | (rw [if_pos (by decide +kernel)]; kernel_rfl) | (rw [if_neg (by decide +kernel)]; exact ⟨rfl, rfl⟩))
    (fun os started H enc _ => lifted os started H enc)

theorem proved : Rows.StockUndoneSaid := over
end Go.Proofs.Ytholaaojcpifnaa.stockUndone
