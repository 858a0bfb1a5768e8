/-
  StockPlaces returns true for every list of calls.
-/
import Derived.Test.YtholaaojcpifnaaPlacea
namespace Go.Proofs.Ytholaaojcpifnaa.stockPlaces
open Go.ChangeShapes Go.WideShapes Go.ChangeAt Go.RowKit
attribute [local go_sem ↓] Go.wp_at_zero Go.wp_at_succ

set_option maxRecDepth 100000 in
set_option maxHeartbeats 8000000 in
theorem walk (A : Option Addr) (len cap : Nat) (xs : List OpD) (w : World) (hx : IsOps w A len xs) :
    Calls Try.prog 5 #[.slice A len cap] w fun e w' => e = .returned (.bool true) ∧ Below w.heap.size w w' := by
  obtain ⟨i0, hi0, hz0, hz1, hz2⟩ := info_parts info9
  have hml := hx.2.1
  have HX := Lib.hid hx
  go_enter Try.func5, Try.ntmps5
  go_wp2_with fail
  refine (small_any A len cap xs w hx).mono ?_
  rintro e w' ⟨b, rfl, rfl, hb⟩
  clear hx
  cases b with
  | false =>
    clear hb
    go_wp2_with fail
    refine (awake_any _).mono ?_
    rintro e w2 ⟨rfl, hb2⟩
    go_wp2
    go_ret
    exact ⟨rfl, hb2⟩
  | true =>
    have hlen := hb rfl
    clear hb
    go_wp2_with fail
    refine (new_sb w).mono ?_
    rintro e w1 ⟨rfl, h1⟩
    have hR : Rel1 w (w.heap.size + 1) w.heap.size len (.slice none 0 0) (.slice none 0 0) (.int .i64 0) w1 := ⟨0, [], [], _, by omega, rfl, h1, ⟨rfl, .inl ⟨rfl, rfl⟩⟩, ⟨rfl, .inl ⟨rfl, rfl⟩⟩, by simp, fun i hi => by simp [Value.ownBlock] at hi, fun i hi => by simp [Value.ownBlock] at hi⟩
    clear h1
    go_wp2
    go_loopw [4, 5, 6] (fun vin vg i wr => Rel1 w (w.heap.size + 1) w.heap.size len vin vg i wr) (fun _ _ i _ => len - (intOf i).toNat)
    case atStart => exact hR
    case round =>
      obtain ⟨k, s, gs, K, hk, rfl, h1, hin, hg, hgl, k1, k2⟩ := hrel
      clear hR
      have hbel := h1.bel
      have ok := h1.ok
      have hsl := ok.le
      have hsi : (s.length : Int) ≤ 512 := by omega
      have hgi : (gs.length : Int) ≤ 102400 := by omega
      obtain ⟨Ai, ci, rfl, ri⟩ := RS.of_own hin (by simp)
      obtain ⟨Ag, cg, rfl, rg⟩ := RS.of_own hg rfl
      by_cases hlt : k < len
      · obtain ⟨x, hxk⟩ : ∃ x, xs[k]? = some x := ⟨xs[k]'(by rw [HX.out.1]; exact hlt), List.getElem?_eq_getElem _⟩
        obtain ⟨b, o, rfl, hbl, hc0, hc1, hc2, hwf⟩ := HX.out.2.2 k x hxk
        have e0 := (hbel.cell (p := ⟨b, o + k * 3, none⟩) hbl).trans hc0
        have e1 := (hbel.cell (p := ⟨b, o + k * 3 + 1, none⟩) hbl).trans hc1
        have e2 := (hbel.cell (p := ⟨b, o + k * 3 + 2, none⟩) hbl).trans hc2
        have hkd := hwf.1
        have C0 := Lib.hid hc0
        clear hxk ri rg hc0 hc2 hwf
        by_cases hk3 : x.kind < 3
        · go_wp2_with fail
          refine (do_sb x h1).mono ?_
          rintro e w3 ⟨A3, c3, rfl, r3, f3, h3⟩
          have hb3 := h3.bel
          have hbs3 := hb3.size
          have d0 := (hb3.cell (p := ⟨b, o + k * 3, none⟩) hbl).trans C0.out
          have d1 := (hb3.cell (p := ⟨b, o + k * 3 + 1, none⟩) hbl).trans hc1
          have hin3 := own_fr hin f3 (fun i hi hn => hn (k1 i hi).1)
          have hg3 := own_fr hg f3 (fun i hi hn => hn (k2 i hi))
          have K1 : Hid (∀ i, (Value.slice Ai s.length ci).ownBlock = some i → (K i ∨ InA A3 i) ∧ (Value.slice Ag gs.length cg).ownBlock ≠ some i) := fun i hi => ⟨.inl (k1 i hi).1, (k1 i hi).2⟩
          have K2 : Hid (∀ i, (Value.slice Ag gs.length cg).ownBlock = some i → (K i ∨ InA A3 i)) := fun i hi => .inl (k2 i hi)
          clear h1 hin hg f3 e0 e1 e2 hc1 k1 k2 r3
          by_cases hk0 : x.kind = 0
          · by_cases hc : (sDo s x).2.1 = 0
            · have HN := Lib.hid (fun w5 v' q1 q2 q3 => rel1_add (w5 := w5) (v' := v') hlt h3 (do_add hk0 hc) (List.length_map ..) hin3 hg3 hgl K1.out K2.out q1 q2 q3)
              have t0 : (x.kind == 0) = true := by simp [hk0]
              have t1 : ((sDo s x).2.1 == 0) = true := by simp [hc]
              have HI := Lib.hid (fun j hj => (hin3.lt j hj).1)
              clear hk0 hc
              go_wp2_with (at_builtin; refine wpList_append_own_at _ rfl _ _ 31 rfl w.heap.size 9 i0 _ 1 16 Try.underlying31 hi0 hz0 hz1 hz2 rfl (by decide) _ _ _ rfl (hin3.alloc _) ⟨w3.heap.size, 0, none⟩ 1 1 [.string x.item] rfl rfl (cell_one_new _ _ _) (by simp [Value.oneCell']) (by unfold maxLen; omega) (by omega) (by simp; omega) ?_; intro v' w5 hown' hgrow _ hat; have HE := Lib.hid (HN.out w5 v' hown' hgrow hat); have d5 := (((hb3.alloc hb3.size _).grown hgrow (by simp; omega) HI.out).cell (p := ⟨b, o + k * 3, none⟩) hbl).trans C0.out; clear hown' hgrow hat)
              go_roundw
              case rel => exact HE.out
              case measure => simp [intOf]; omega
            · have HE := Lib.hid (rel1_skip hlt h3 (do_fst (.inr hc) hk3 hkd.1) (List.length_map ..) hin3 hg3 hgl K1.out K2.out)
              have t0 : (x.kind == 0) = true := by simp [hk0]
              have t1 : ((sDo s x).2.1 == 0) = false := by simp [hc]
              clear hk0 hc
              go_wp2
              go_roundw
              case rel => exact HE.out
              case measure => simp [intOf]; omega
          · have HE := Lib.hid (rel1_skip hlt h3 (do_fst (.inl hk0) hk3 hkd.1) (List.length_map ..) hin3 hg3 hgl K1.out K2.out)
            have t0 : (x.kind == 0) = false := by simp [hk0]
            clear hk0
            go_wp2
            go_roundw
            case rel => exact HE.out
            case measure => simp [intOf]; omega
        · go_wp2_with fail
          refine (do_new x h1 (by omega)).mono ?_
          rintro e w3 ⟨A3, c3, rfl, r3, f3, h3, n3⟩
          have hb3 := h3.bel
          have hbs3 := hb3.size
          have d0 := (hb3.cell (p := ⟨b, o + k * 3, none⟩) hbl).trans C0.out
          have hin3 := own_fr hin f3 (fun i hi hn => hn (k1 i hi).1)
          have hg3 := own_fr hg f3 (fun i hi hn => hn (k2 i hi))
          have SEP : Hid (∀ i, (Value.slice Ai s.length ci).ownBlock = some i → (Value.slice Ag gs.length cg).ownBlock ≠ some i) := fun i hi => (k1 i hi).2
          have NEW : Hid (∀ i, InA A3 i → (Value.slice Ag gs.length cg).ownBlock ≠ some i) := fun i hi e => by
            have := (own_lt hg e).2
            have := n3 i hi
            omega
          have K2 : Hid (∀ i, (Value.slice Ag gs.length cg).ownBlock = some i → (K i ∨ InA A3 i)) := fun i hi => .inl (k2 i hi)
          have t0 : (x.kind == 0) = false := by simp; omega
          have hR2 : Rel2 w w3 (s.map (·.1)) (held s x.order) gs (.slice Ag gs.length cg) (.slice Ag gs.length cg) (.slice none 0 0) (.int .i64 0) w3 :=
            ⟨0, by omega, rfl, ⟨rfl, .inl ⟨rfl, rfl⟩⟩, by simpa [gall, gns] using hg3, Fr.refl _ _, fun i hi => .inl hi, fun i hi => by simp [Value.ownBlock] at hi⟩
          have HEND := Lib.hid (fun wr vg vr q1 q2 q3 q4 q5 => rel2_end (wr := wr) (vg := vg) (vr := vr) ok hlt h3 hg3 hgl K2.out q1 q2 q3 q4 q5)
          have HIN := Lib.hid hin3
          have HR3 := Lib.hid r3
          have hol : (held s x.order).length ≤ 512 := Nat.le_trans (held_le _ _) ok.le
          have hol2 : ((held s x.order).length : Int) ≤ 512 := by omega
          have HLN : Hid ((s.map (·.1)).length = s.length) := List.length_map ..
          have LEN : Hid ((rsts (s.map (·.1)) (held s x.order)).length + (held s x.order).length = s.length) := by rw [rsts_all ok, List.length_map]; exact remove_len s x.order
          clear h1 hin hg f3 e0 e1 e2 hc1 k1 k2 r3 n3 h3 hin3 hg3 hbel ok
          generalize held s x.order = out at hR2 HEND HR3 hol hol2 LEN ⊢
          generalize s.map (·.1) = ins at hR2 HEND HIN LEN HLN ⊢
          go_wp2
          go_loopw [5, 10, 11] (fun vg vr j wr => Rel2 w w3 ins out gs (.slice Ag gs.length cg) vg vr j wr) (fun _ _ j _ => s.length - (intOf j).toNat)
          case atStart => exact hR2
          case round =>
            obtain ⟨j, hj, rfl, q1, q2, f, l1, l2⟩ := hrel
            clear hR2
            obtain ⟨Ar, cr, rfl, _⟩ := RS.of_own q1 rfl
            obtain ⟨Ah, ch, rfl, _⟩ := RS.of_own q2 rfl
            have rl := rsts_le (ins.take j) out
            have gl := gns_le (ins.take j) out
            rw [List.length_take, HLN.out] at rl gl
            rw [HLN.out] at hj
            have ghl : (gall gs (ins.take j) out).length ≤ 102912 := by unfold gall; rw [List.length_append]; omega
            have fz := f.size
            by_cases hjl : j < s.length
            · obtain ⟨y, hy⟩ : ∃ y, ins[j]? = some y := ⟨ins[j]'(by rw [HLN.out]; exact hjl), List.getElem?_eq_getElem _⟩
              obtain ⟨A', c', he', ri⟩ := RS.of_own (own_fr HIN.out f (fun i hi e => SEP.out i hi e)) HLN.out
              simp only [Value.slice.injEq, true_and] at he'
              obtain ⟨rfl, rfl⟩ := he'
              obtain ⟨gi, oi, rfl, hcy, _⟩ := ri.2.2 j y hy
              have r3 := HR3.out.fr f (fun g o e => NEW.out g ⟨o, e⟩)
              by_cases hyo : y ∈ out
              · have HN := Lib.hid (fun w5 v' p1 p2 p3 => rel2_gone (w5 := w5) (v' := v') hb3 hy hyo q1 q2 f l1 l2 p1 p2 p3)
                have hct : 0 < out.count y := List.count_pos_iff.2 hyo
                have hct2 : (((out.count y : Nat) : Int) == 0) = false := by simp; omega
                clear hy hyo
                go_wp2_with fail
                refine (index_any A3 _ c3 out y _ r3 (by omega)).mono ?_
                rintro e w' ⟨rfl, rfl⟩
                go_wp2_with (at_builtin; refine wpList_append_own_at _ rfl _ _ 31 rfl w.heap.size 9 i0 _ 1 16 Try.underlying31 hi0 hz0 hz1 hz2 rfl (by decide) _ _ _ rfl (q2.alloc _) ⟨wr.heap.size, 0, none⟩ 1 1 [.string y] rfl rfl (cell_one_new _ _ _) (by simp [Value.oneCell']) (by unfold maxLen; omega) (by omega) (by simp; omega) ?_; intro v' w5 hown' hgrow _ hat; have HE := Lib.hid (HN.out w5 v' hown' hgrow hat); clear hown' hgrow hat)
                go_roundw
                case rel => exact HE.out
                case measure => simp [intOf]; omega
              · have HN := Lib.hid (fun w5 v' p1 p2 p3 => rel2_rest (w5 := w5) (v' := v') hy hyo q1 q2 f l1 l2 p1 p2 p3)
                have HC := Lib.hid (count_none hyo)
                clear hy hyo
                go_wp2_with fail
                refine (index_to (c := 0) r3 (by omega) HC.out).mono ?_
                rintro e w' ⟨rfl, rfl⟩
                go_wp2_with (at_builtin; refine wpList_append_own_at _ rfl _ _ 31 rfl w3.heap.size 9 i0 _ 1 16 Try.underlying31 hi0 hz0 hz1 hz2 rfl (by decide) _ _ _ rfl (q1.alloc _) ⟨wr.heap.size, 0, none⟩ 1 1 [.string y] rfl rfl (cell_one_new _ _ _) (by simp [Value.oneCell']) (by unfold maxLen; omega) (by omega) (by simp; omega) ?_; intro v' w5 hown' hgrow _ hat; have HE := Lib.hid (HN.out w5 v' hown' hgrow hat); clear hown' hgrow hat)
                go_roundw
                case rel => exact HE.out
                case measure => simp [intOf]; omega
            · have hj2 : ins.take j = ins := List.take_of_length_le (by rw [HLN.out]; omega)
              rw [hj2] at q1 q2 rl gl ghl l1 l2 ⊢
              have HE := Lib.hid (HEND.out _ _ _ q1 q2 f l1 l2)
              have hsum : ((rsts ins out).length : Int) + (out.length : Int) = (s.length : Int) := by have := LEN.out; omega
              clear q1 q2 f l1 l2
              go_wp2
              go_roundw
              case rel => exact HE.out
              case measure => simp [intOf]; omega
      · go_wp2_with fail
        refine (free_sb h1).mono ?_
        rintro e w5 ⟨A5, c5, rfl, r5, s5, h5⟩
        have fin : Fin w (fun i => K i ∨ InA A5 i) (w.heap.size + 1) w.heap.size s Ai Ag A5 gs w5 := ⟨h5, ri.same s5, rg.same s5, r5⟩
        generalize (fun i => K i ∨ InA A5 i) = K5 at fin
        have hR3 : Rel3 w K5 (w.heap.size + 1) w.heap.size s Ai Ag A5 gs (.int .i64 0) (.int .i64 0) w5 := ⟨0, by omega, rfl, rfl, fin⟩
        have hfl : (withs s nul).length ≤ 512 := Nat.le_trans (withs_le _ _) hsl
        have hfl2 : ((withs s nul).length : Int) ≤ 512 := by omega
        have OK := Lib.hid ok
        clear h1 hin hg k1 k2 hbel r5 s5 h5 fin ri rg ok
        go_wp2
        go_loopw [13, 14] (fun n i wr => Rel3 w K5 (w.heap.size + 1) w.heap.size s Ai Ag A5 gs n i wr) (fun _ i _ => s.length - (intOf i).toNat)
        case atStart => exact hR3
        case round =>
          obtain ⟨j, hj, rfl, rfl, fin⟩ := hrel
          clear hR3
          have hnl := nh_le (s.take j)
          rw [List.length_take] at hnl
          by_cases hjl : j < s.length
          · obtain ⟨e, he⟩ : ∃ e, s[j]? = some e := ⟨s[j], List.getElem?_eq_getElem hjl⟩
            obtain ⟨x, ord⟩ := e
            obtain ⟨gi, oi, rfl, hcx, _⟩ := fin.ri.2.2 j x (by simp [he])
            have hgx : getG s x = some ord := getG_mem s x ord OK.out.nd (List.mem_of_getElem? he)
            have C1 : Hid ((s.map (·.1)).count x = 1) := count_one OK.out.nd (List.mem_map.2 ⟨_, List.mem_of_getElem? he, rfl⟩)
            have i1 : (0 : Int) ≤ (j : Int) := by omega
            have i2 : (j : Int) < (s.length : Int) := by omega
            have hst := nh_take he
            have HG := Lib.hid hgx
            by_cases ho : ord = nul
            · rw [if_pos ho] at hst
              have HST : Hid (nh (s.take (j + 1)) = nh (s.take j)) := hst
              have C2 : Hid ((withs s nul).count x = 1) := count_one (withs_nodup OK.out nul) (List.mem_map.2 ⟨(x, ord), List.mem_filter.2 ⟨List.mem_of_getElem? he, by simp [ho]⟩, rfl⟩)
              have ko := eq_of ho
              have HE : Hid (∀ W, Fin w K5 (w.heap.size + 1) w.heap.size s (some ⟨gi, oi, none⟩) Ag A5 gs W → Rel3 w K5 (w.heap.size + 1) w.heap.size s (some ⟨gi, oi, none⟩) Ag A5 gs (.int .i64 (nh (s.take j) : Nat)) (.int .i64 ((j : Int) + 1)) W) := fun W hW => ⟨j + 1, by omega, by simp, by rw [HST.out], hW⟩
              clear he hgx hst ho
              go_wp2_with fail
              refine (of_to (x := x) (o := ord) (b := true) fin.sb (by rw [HG.out]; rfl) (by rw [HG.out]; rfl)).mono ?_
              rintro e w' ⟨rfl, rfl⟩
              have ko2 : ord.toList = [] := List.isEmpty_iff.1 ko
              go_wp2
              go_quiet ((first
                | (go_at_call 24; exact quiet_left (index_to (c := 1) (RS.drewN fin.ri _) (by omega) C1.out))
                | (go_at_call 24; exact quiet_left (index_to (c := 1) (RS.drewN fin.rf _) (by omega) C2.out))))
              go_wp2
              go_roundw
              case rel => exact HE.out _ (Fin.drewN fin _)
              case measure => simp [intOf]; omega
            · rw [if_neg ho] at hst
              have HST : Hid (nh (s.take (j + 1)) = nh (s.take j) + 1) := hst
              have hmh : x ∈ held s ord := (mem_held OK.out ord x).2 ⟨ho, hgx⟩
              have C2 : Hid ((held s ord).count x = 1) := count_one (held_nodup OK.out ord) hmh
              have C3 : Hid ((withs s nul).count x = 0) := count_none (fun hm => ho (by have := withs_get OK.out hm; rw [hgx] at this; exact Option.some.inj this))
              have hhl : (held s ord).length ≤ 512 := Nat.le_trans (held_le _ _) hsl
              have ko := ne_of ho
              have HE : Hid (∀ W, Fin w K5 (w.heap.size + 1) w.heap.size s (some ⟨gi, oi, none⟩) Ag A5 gs W → Rel3 w K5 (w.heap.size + 1) w.heap.size s (some ⟨gi, oi, none⟩) Ag A5 gs (.int .i64 ((nh (s.take j) : Int) + 1)) (.int .i64 ((j : Int) + 1)) W) := fun W hW => ⟨j + 1, by omega, by simp, by rw [HST.out]; simp, hW⟩
              clear he hgx hst ho hmh
              go_wp2_with fail
              refine (of_to (x := x) (o := ord) (b := true) fin.sb (by rw [HG.out]; rfl) (by rw [HG.out]; rfl)).mono ?_
              rintro e w' ⟨rfl, rfl⟩
              have ko2 : ¬ ord.toList = [] := fun e => by rw [e] at ko; cases ko
              go_wp2
              refine wp_region_noPanic ?_
              refine wp_region_held_drew (S := (fun W => W.cell? ⟨gi, oi + j, none⟩ = some (.string x) ∧ Fin w K5 (w.heap.size + 1) w.heap.size s (some ⟨gi, oi, none⟩) Ag A5 gs W)) (by kernel_rfl) ?_ (fun hHeld => ?_)
              · exact ⟨hcx, Fin.drew fin⟩
              refine wpAnyH_take (i := 0) (oi := { dst := some 118, op := Go.Op.move (Go.Operand.tmp 16), type := 4, pos := _, after := #[], guard := none }) (v := ?_) rfl (by kernel_rfl) (by kernel_rfl) (by kernel_rfl) (fun _ _ _ h => h) (Or.inl ⟨by rfl, ?r0⟩) (by assumption) ?_
              case r0 => (intro w hSw; (try dsimp only at hSw); go_simp; (try with_reducible rfl))
              (try simp only [Act.put, List.setIfInBounds_toArray, List.set_cons_zero, List.set_cons_succ])
              refine wpAnyH_take (i := 1) (oi := { dst := some 119, op := Go.Op.unOp Go.UnOp.not 4 (Go.Operand.tmp 118), type := 4, pos := _, after := #[{ on := 0, ground := Go.Ground.data }], guard := none }) (v := ?_) rfl (by kernel_rfl) (by kernel_rfl) (by kernel_rfl) (fun _ _ _ h => h) (Or.inl ⟨by rfl, ?r1⟩) (by assumption) ?_
              case r1 => (intro w hSw; (try dsimp only at hSw); go_simp; (try with_reducible rfl))
              (try simp only [Act.put, List.setIfInBounds_toArray, List.set_cons_zero, List.set_cons_succ])
              refine wpAnyH_take (i := 2) (oi := { dst := some 120, op := Go.Op.move (Go.Operand.tmp 119), type := 4, pos := _, after := #[{ on := 1, ground := Go.Ground.data }], guard := none }) (v := ?_) rfl (by kernel_rfl) (by kernel_rfl) (by kernel_rfl) (fun _ _ _ h => h) (Or.inl ⟨by rfl, ?r2⟩) (by assumption) ?_
              case r2 => (intro w hSw; (try dsimp only at hSw); go_simp; (try with_reducible rfl))
              (try simp only [Act.put, List.setIfInBounds_toArray, List.set_cons_zero, List.set_cons_succ])
              refine wpAnyH_take (i := 3) (oi := { dst := some 121, op := Go.Op.move (Go.Operand.tmp 4), type := 31, pos := _, after := #[{ on := 2, ground := Go.Ground.guard }], guard := some (2, false) }) (v := ?_) rfl (by kernel_rfl) (by kernel_rfl) (by kernel_rfl) (fun _ _ _ h => h) (Or.inl ⟨by rfl, ?r3⟩) (by assumption) ?_
              case r3 => (intro w hSw; (try dsimp only at hSw); go_simp; (try with_reducible rfl))
              (try simp only [Act.put, List.setIfInBounds_toArray, List.set_cons_zero, List.set_cons_succ])
              refine wpAnyH_take (i := 4) (oi := { dst := some 122, op := Go.Op.move (Go.Operand.tmp 4), type := 31, pos := _, after := #[{ on := 2, ground := Go.Ground.guard }], guard := some (2, false) }) (v := ?_) rfl (by kernel_rfl) (by kernel_rfl) (by kernel_rfl) (fun _ _ _ h => h) (Or.inl ⟨by rfl, ?r4⟩) (by assumption) ?_
              case r4 => (intro w hSw; (try dsimp only at hSw); go_simp; (try with_reducible rfl))
              (try simp only [Act.put, List.setIfInBounds_toArray, List.set_cons_zero, List.set_cons_succ])
              refine wpAnyH_take (i := 5) (oi := { dst := some 123, op := Go.Op.move (Go.Operand.tmp 14), type := 3, pos := _, after := #[{ on := 2, ground := Go.Ground.guard }], guard := some (2, false) }) (v := ?_) rfl (by kernel_rfl) (by kernel_rfl) (by kernel_rfl) (fun _ _ _ h => h) (Or.inl ⟨by rfl, ?r5⟩) (by assumption) ?_
              case r5 => (intro w hSw; (try dsimp only at hSw); go_simp; (try with_reducible rfl))
              (try simp only [Act.put, List.setIfInBounds_toArray, List.set_cons_zero, List.set_cons_succ])
              refine wpAnyH_take (i := 6) (oi := { dst := some 124, op := Go.Op.indexAddr 31 (Go.Operand.tmp 122) (Go.Operand.tmp 123), type := 0, pos := _, after := #[{ on := 4, ground := Go.Ground.data }, { on := 5, ground := Go.Ground.data }, { on := 2, ground := Go.Ground.guard }], guard := some (2, false) }) (v := ?_) rfl (by kernel_rfl) (by kernel_rfl) (by kernel_rfl) (fun _ _ _ h => h) (Or.inl ⟨by rfl, ?r6⟩) (by assumption) ?_
              case r6 => (intro w hSw; (try dsimp only at hSw); go_simp; (try with_reducible rfl))
              (try simp only [Act.put, List.setIfInBounds_toArray, List.set_cons_zero, List.set_cons_succ])
              refine wpAnyH_take (i := 7) (oi := { dst := some 125, op := Go.Op.load 9 (Go.Operand.tmp 124), type := 9, pos := _, after := #[{ on := 6, ground := Go.Ground.data }, { on := 2, ground := Go.Ground.guard }], guard := some (2, false) }) (v := ?_) rfl (by kernel_rfl) (by kernel_rfl) (by kernel_rfl) (fun _ _ _ h => h) (Or.inl ⟨by rfl, ?r7⟩) (by assumption) ?_
              case r7 => (intro w hSw; (try dsimp only at hSw); go_simp; (try with_reducible rfl))
              (try simp only [Act.put, List.setIfInBounds_toArray, List.set_cons_zero, List.set_cons_succ])
              refine wpAnyH_ready (rs := [8]) (by kernel_rfl) (by simp) ?_
              refine AllReadyH.cons (o := { dst := some 126, op := Go.Op.call { callee := Go.Callee.value (Go.Operand.func 24), args := #[Go.Operand.tmp 121, Go.Operand.tmp 125], argTypes := #[31, 9] }, type := 3, pos := _, after := #[{ on := 3, ground := Go.Ground.data }, { on := 7, ground := Go.Ground.data }, { on := 2, ground := Go.Ground.chain }, { on := 2, ground := Go.Ground.guard }], guard := some (2, false) }) rfl (fun K hK => ?_) AllReadyH.nil
              go_simp
              (refine (index_to (c := 1) (Fin.ri hHeld.2) (by omega) C1.out).mono ?_; rintro e w' ⟨rfl, rfl⟩)
              (try go_wp2_with fail)
              refine hK.out _ _ ?_ (fun hHeld => ?_)
              · exact ⟨hHeld.1, hHeld.2⟩
              clear hK K
              (try simp only [Act.put, List.setIfInBounds_toArray, List.set_cons_zero, List.set_cons_succ])
              refine wpAnyH_take (i := 9) (oi := { dst := some 127, op := Go.Op.binOp Go.BinOp.neq 3 (Go.Operand.tmp 126) (Go.Operand.const (Go.Value.int Go.IntKind.i64 1)) 3, type := 4, pos := _, after := #[{ on := 8, ground := Go.Ground.data }, { on := 2, ground := Go.Ground.guard }], guard := some (2, false) }) (v := ?_) rfl (by kernel_rfl) (by kernel_rfl) (by kernel_rfl) (fun _ _ _ h => h) (Or.inl ⟨by rfl, ?r9⟩) (by assumption) ?_
              case r9 => (intro w hSw; (try dsimp only at hSw); go_simp; (try with_reducible rfl))
              (try simp only [Act.put, List.setIfInBounds_toArray, List.set_cons_zero, List.set_cons_succ])
              refine wpAnyH_take (i := 10) (oi := { dst := some 128, op := Go.Op.pick (Go.Operand.tmp 120) (Go.Operand.const (Go.Value.bool true)) (Go.Operand.tmp 127), type := 4, pos := _, after := #[{ on := 2, ground := Go.Ground.data }, { on := 9, ground := Go.Ground.data }], guard := none }) (v := ?_) rfl (by kernel_rfl) (by kernel_rfl) (by kernel_rfl) (fun _ _ _ h => h) (Or.inl ⟨by rfl, ?r10⟩) (by assumption) ?_
              case r10 => (intro w hSw; (try dsimp only at hSw); go_simp; (try with_reducible rfl))
              (try simp only [Act.put, List.setIfInBounds_toArray, List.set_cons_zero, List.set_cons_succ])
              refine wpAnyH_take (i := 11) (oi := { dst := some 129, op := Go.Op.move (Go.Operand.tmp 128), type := 4, pos := _, after := #[{ on := 10, ground := Go.Ground.data }, { on := 8, ground := Go.Ground.chain }], guard := none }) (v := ?_) rfl (by kernel_rfl) (by kernel_rfl) (by kernel_rfl) (fun _ _ _ h => h) (Or.inl ⟨by rfl, ?r11⟩) (by assumption) ?_
              case r11 => (intro w hSw; (try dsimp only at hSw); go_simp; (try with_reducible rfl))
              (try simp only [Act.put, List.setIfInBounds_toArray, List.set_cons_zero, List.set_cons_succ])
              refine wpAnyH_take (i := 12) (oi := { dst := some 130, op := Go.Op.move (Go.Operand.tmp 15), type := 9, pos := _, after := #[{ on := 11, ground := Go.Ground.guard }], guard := some (11, false) }) (v := ?_) rfl (by kernel_rfl) (by kernel_rfl) (by kernel_rfl) (fun _ _ _ h => h) (Or.inl ⟨by rfl, ?r12⟩) (by assumption) ?_
              case r12 => (intro w hSw; (try dsimp only at hSw); go_simp; (try with_reducible rfl))
              (try simp only [Act.put, List.setIfInBounds_toArray, List.set_cons_zero, List.set_cons_succ])
              refine wpAnyH_take (i := 13) (oi := { dst := some 131, op := Go.Op.binOp Go.BinOp.eql 9 (Go.Operand.tmp 130) (Go.Operand.const (Go.Value.string { data := #[] })) 9, type := 4, pos := _, after := #[{ on := 12, ground := Go.Ground.data }, { on := 11, ground := Go.Ground.guard }], guard := some (11, false) }) (v := ?_) rfl (by kernel_rfl) (by kernel_rfl) (by kernel_rfl) (fun _ _ _ h => h) (Or.inl ⟨by rfl, ?r13⟩) (by assumption) ?_
              case r13 => (intro w hSw; (try dsimp only at hSw); go_simp; (try with_reducible rfl))
              (try simp only [Act.put, List.setIfInBounds_toArray, List.set_cons_zero, List.set_cons_succ])
              refine wpAnyH_take (i := 14) (oi := { dst := some 132, op := Go.Op.move (Go.Operand.tmp 131), type := 4, pos := _, after := #[{ on := 13, ground := Go.Ground.data }, { on := 11, ground := Go.Ground.chain }, { on := 11, ground := Go.Ground.guard }], guard := some (11, false) }) (v := ?_) rfl (by kernel_rfl) (by kernel_rfl) (by kernel_rfl) (fun _ _ _ h => h) (Or.inl ⟨by rfl, ?r14⟩) (by assumption) ?_
              case r14 => (intro w hSw; (try dsimp only at hSw); go_simp; (try with_reducible rfl))
              (try simp only [Act.put, List.setIfInBounds_toArray, List.set_cons_zero, List.set_cons_succ])
              refine wpAnyH_take (i := 15) (oi := { dst := some 133, op := Go.Op.move (Go.Operand.tmp 12), type := 31, pos := _, after := #[{ on := 14, ground := Go.Ground.guard }], guard := some (14, true) }) (v := undef) rfl (by kernel_rfl) (by kernel_rfl) (by kernel_rfl) (fun _ _ _ h => h) (Or.inr ⟨by rfl, rfl⟩) (by assumption) ?_
              (try simp only [Act.put, List.setIfInBounds_toArray, List.set_cons_zero, List.set_cons_succ])
              refine wpAnyH_take (i := 16) (oi := { dst := some 134, op := Go.Op.move (Go.Operand.tmp 4), type := 31, pos := _, after := #[{ on := 14, ground := Go.Ground.guard }], guard := some (14, true) }) (v := undef) rfl (by kernel_rfl) (by kernel_rfl) (by kernel_rfl) (fun _ _ _ h => h) (Or.inr ⟨by rfl, rfl⟩) (by assumption) ?_
              (try simp only [Act.put, List.setIfInBounds_toArray, List.set_cons_zero, List.set_cons_succ])
              refine wpAnyH_take (i := 17) (oi := { dst := some 135, op := Go.Op.move (Go.Operand.tmp 14), type := 3, pos := _, after := #[{ on := 14, ground := Go.Ground.guard }], guard := some (14, true) }) (v := undef) rfl (by kernel_rfl) (by kernel_rfl) (by kernel_rfl) (fun _ _ _ h => h) (Or.inr ⟨by rfl, rfl⟩) (by assumption) ?_
              (try simp only [Act.put, List.setIfInBounds_toArray, List.set_cons_zero, List.set_cons_succ])
              refine wpAnyH_take (i := 18) (oi := { dst := some 136, op := Go.Op.indexAddr 31 (Go.Operand.tmp 134) (Go.Operand.tmp 135), type := 0, pos := _, after := #[{ on := 16, ground := Go.Ground.data }, { on := 17, ground := Go.Ground.data }, { on := 14, ground := Go.Ground.guard }], guard := some (14, true) }) (v := undef) rfl (by kernel_rfl) (by kernel_rfl) (by kernel_rfl) (fun _ _ _ h => h) (Or.inr ⟨by rfl, rfl⟩) (by assumption) ?_
              (try simp only [Act.put, List.setIfInBounds_toArray, List.set_cons_zero, List.set_cons_succ])
              refine wpAnyH_take (i := 19) (oi := { dst := some 137, op := Go.Op.load 9 (Go.Operand.tmp 136), type := 9, pos := _, after := #[{ on := 18, ground := Go.Ground.data }, { on := 14, ground := Go.Ground.guard }], guard := some (14, true) }) (v := undef) rfl (by kernel_rfl) (by kernel_rfl) (by kernel_rfl) (fun _ _ _ h => h) (Or.inr ⟨by rfl, rfl⟩) (by assumption) ?_
              (try simp only [Act.put, List.setIfInBounds_toArray, List.set_cons_zero, List.set_cons_succ])
              refine wpAnyH_ready (rs := [20]) (by kernel_rfl) (by simp) ?_
              refine AllReadyH.cons (o := { dst := some 138, op := Go.Op.call { callee := Go.Callee.value (Go.Operand.func 24), args := #[Go.Operand.tmp 133, Go.Operand.tmp 137], argTypes := #[31, 9] }, type := 3, pos := _, after := #[{ on := 15, ground := Go.Ground.data }, { on := 19, ground := Go.Ground.data }, { on := 14, ground := Go.Ground.chain }, { on := 14, ground := Go.Ground.guard }], guard := some (14, true) }) rfl (fun K hK => ?_) AllReadyH.nil
              go_simp
              refine hK.out _ _ (by assumption) (fun hHeld => ?_)
              clear hK K
              (try simp only [Act.put, List.setIfInBounds_toArray, List.set_cons_zero, List.set_cons_succ])
              refine wpAnyH_take (i := 21) (oi := { dst := some 139, op := Go.Op.binOp Go.BinOp.neq 3 (Go.Operand.tmp 138) (Go.Operand.const (Go.Value.int Go.IntKind.i64 1)) 3, type := 4, pos := _, after := #[{ on := 20, ground := Go.Ground.data }, { on := 14, ground := Go.Ground.guard }], guard := some (14, true) }) (v := undef) rfl (by kernel_rfl) (by kernel_rfl) (by kernel_rfl) (fun _ _ _ h => h) (Or.inr ⟨by rfl, rfl⟩) (by assumption) ?_
              (try simp only [Act.put, List.setIfInBounds_toArray, List.set_cons_zero, List.set_cons_succ])
              refine wpAnyH_take (i := 22) (oi := { dst := some 140, op := Go.Op.pick (Go.Operand.tmp 132) (Go.Operand.tmp 139) (Go.Operand.const (Go.Value.bool false)), type := 4, pos := _, after := #[{ on := 14, ground := Go.Ground.data }, { on := 21, ground := Go.Ground.data }, { on := 11, ground := Go.Ground.guard }], guard := some (11, false) }) (v := ?_) rfl (by kernel_rfl) (by kernel_rfl) (by kernel_rfl) (fun _ _ _ h => h) (Or.inl ⟨by rfl, ?r22⟩) (by assumption) ?_
              case r22 => (intro w hSw; (try dsimp only at hSw); go_simp; (try with_reducible rfl))
              (try simp only [Act.put, List.setIfInBounds_toArray, List.set_cons_zero, List.set_cons_succ])
              refine wpAnyH_take (i := 23) (oi := { dst := some 141, op := Go.Op.pick (Go.Operand.tmp 129) (Go.Operand.const (Go.Value.bool true)) (Go.Operand.tmp 140), type := 4, pos := _, after := #[{ on := 11, ground := Go.Ground.data }, { on := 22, ground := Go.Ground.data }], guard := none }) (v := ?_) rfl (by kernel_rfl) (by kernel_rfl) (by kernel_rfl) (fun _ _ _ h => h) (Or.inl ⟨by rfl, ?r23⟩) (by assumption) ?_
              case r23 => (intro w hSw; (try dsimp only at hSw); go_simp; (try with_reducible rfl))
              (try simp only [Act.put, List.setIfInBounds_toArray, List.set_cons_zero, List.set_cons_succ])
              refine wpAnyH_take (i := 24) (oi := { dst := some 142, op := Go.Op.move (Go.Operand.tmp 141), type := 4, pos := _, after := #[{ on := 23, ground := Go.Ground.data }, { on := 20, ground := Go.Ground.chain }], guard := none }) (v := ?_) rfl (by kernel_rfl) (by kernel_rfl) (by kernel_rfl) (fun _ _ _ h => h) (Or.inl ⟨by rfl, ?r24⟩) (by assumption) ?_
              case r24 => (intro w hSw; (try dsimp only at hSw); go_simp; (try with_reducible rfl))
              (try simp only [Act.put, List.setIfInBounds_toArray, List.set_cons_zero, List.set_cons_succ])
              refine wpAnyH_take (i := 25) (oi := { dst := some 143, op := Go.Op.move (Go.Operand.tmp 15), type := 9, pos := _, after := #[{ on := 24, ground := Go.Ground.guard }], guard := some (24, false) }) (v := ?_) rfl (by kernel_rfl) (by kernel_rfl) (by kernel_rfl) (fun _ _ _ h => h) (Or.inl ⟨by rfl, ?r25⟩) (by assumption) ?_
              case r25 => (intro w hSw; (try dsimp only at hSw); go_simp; (try with_reducible rfl))
              (try simp only [Act.put, List.setIfInBounds_toArray, List.set_cons_zero, List.set_cons_succ])
              refine wpAnyH_take (i := 26) (oi := { dst := some 144, op := Go.Op.binOp Go.BinOp.neq 9 (Go.Operand.tmp 143) (Go.Operand.const (Go.Value.string { data := #[] })) 9, type := 4, pos := _, after := #[{ on := 25, ground := Go.Ground.data }, { on := 24, ground := Go.Ground.guard }], guard := some (24, false) }) (v := ?_) rfl (by kernel_rfl) (by kernel_rfl) (by kernel_rfl) (fun _ _ _ h => h) (Or.inl ⟨by rfl, ?r26⟩) (by assumption) ?_
              case r26 => (intro w hSw; (try dsimp only at hSw); go_simp; (try with_reducible rfl))
              (try simp only [Act.put, List.setIfInBounds_toArray, List.set_cons_zero, List.set_cons_succ])
              refine wpAnyH_take (i := 27) (oi := { dst := some 145, op := Go.Op.move (Go.Operand.tmp 144), type := 4, pos := _, after := #[{ on := 26, ground := Go.Ground.data }, { on := 24, ground := Go.Ground.chain }, { on := 24, ground := Go.Ground.guard }], guard := some (24, false) }) (v := ?_) rfl (by kernel_rfl) (by kernel_rfl) (by kernel_rfl) (fun _ _ _ h => h) (Or.inl ⟨by rfl, ?r27⟩) (by assumption) ?_
              case r27 => (intro w hSw; (try dsimp only at hSw); go_simp; (try with_reducible rfl))
              (try simp only [Act.put, List.setIfInBounds_toArray, List.set_cons_zero, List.set_cons_succ])
              refine wpAnyH_take (i := 28) (oi := { dst := some 146, op := Go.Op.move (Go.Operand.tmp 3), type := 25, pos := _, after := #[{ on := 27, ground := Go.Ground.guard }], guard := some (27, true) }) (v := ?_) rfl (by kernel_rfl) (by kernel_rfl) (by kernel_rfl) (fun _ _ _ h => h) (Or.inl ⟨by rfl, ?r28⟩) (by assumption) ?_
              case r28 => (intro w hSw; (try dsimp only at hSw); go_simp; (try with_reducible rfl))
              (try simp only [Act.put, List.setIfInBounds_toArray, List.set_cons_zero, List.set_cons_succ])
              refine wpAnyH_take (i := 29) (oi := { dst := some 147, op := Go.Op.move (Go.Operand.tmp 15), type := 9, pos := _, after := #[{ on := 27, ground := Go.Ground.guard }], guard := some (27, true) }) (v := ?_) rfl (by kernel_rfl) (by kernel_rfl) (by kernel_rfl) (fun _ _ _ h => h) (Or.inl ⟨by rfl, ?r29⟩) (by assumption) ?_
              case r29 => (intro w hSw; (try dsimp only at hSw); go_simp; (try with_reducible rfl))
              (try simp only [Act.put, List.setIfInBounds_toArray, List.set_cons_zero, List.set_cons_succ])
              refine wpAnyH_take (i := 31) (oi := { dst := some 149, op := Go.Op.move (Go.Operand.tmp 4), type := 31, pos := _, after := #[{ on := 27, ground := Go.Ground.guard }], guard := some (27, true) }) (v := ?_) rfl (by kernel_rfl) (by kernel_rfl) (by kernel_rfl) (fun _ _ _ h => h) (Or.inl ⟨by rfl, ?r31⟩) (by assumption) ?_
              case r31 => (intro w hSw; (try dsimp only at hSw); go_simp; (try with_reducible rfl))
              (try simp only [Act.put, List.setIfInBounds_toArray, List.set_cons_zero, List.set_cons_succ])
              refine wpAnyH_take (i := 32) (oi := { dst := some 150, op := Go.Op.move (Go.Operand.tmp 14), type := 3, pos := _, after := #[{ on := 27, ground := Go.Ground.guard }], guard := some (27, true) }) (v := ?_) rfl (by kernel_rfl) (by kernel_rfl) (by kernel_rfl) (fun _ _ _ h => h) (Or.inl ⟨by rfl, ?r32⟩) (by assumption) ?_
              case r32 => (intro w hSw; (try dsimp only at hSw); go_simp; (try with_reducible rfl))
              (try simp only [Act.put, List.setIfInBounds_toArray, List.set_cons_zero, List.set_cons_succ])
              refine wpAnyH_take (i := 33) (oi := { dst := some 151, op := Go.Op.indexAddr 31 (Go.Operand.tmp 149) (Go.Operand.tmp 150), type := 0, pos := _, after := #[{ on := 31, ground := Go.Ground.data }, { on := 32, ground := Go.Ground.data }, { on := 27, ground := Go.Ground.guard }], guard := some (27, true) }) (v := ?_) rfl (by kernel_rfl) (by kernel_rfl) (by kernel_rfl) (fun _ _ _ h => h) (Or.inl ⟨by rfl, ?r33⟩) (by assumption) ?_
              case r33 => (intro w hSw; (try dsimp only at hSw); go_simp; (try with_reducible rfl))
              (try simp only [Act.put, List.setIfInBounds_toArray, List.set_cons_zero, List.set_cons_succ])
              refine wpAnyH_take (i := 34) (oi := { dst := some 152, op := Go.Op.load 9 (Go.Operand.tmp 151), type := 9, pos := _, after := #[{ on := 33, ground := Go.Ground.data }, { on := 27, ground := Go.Ground.guard }], guard := some (27, true) }) (v := ?_) rfl (by kernel_rfl) (by kernel_rfl) (by kernel_rfl) (fun _ _ _ h => h) (Or.inl ⟨by rfl, ?r34⟩) (by assumption) ?_
              case r34 => (intro w hSw; (try dsimp only at hSw); go_simp; (try with_reducible rfl))
              (try simp only [Act.put, List.setIfInBounds_toArray, List.set_cons_zero, List.set_cons_succ])
              refine wpAnyH_ready (rs := [30]) (by kernel_rfl) (by simp) ?_
              refine AllReadyH.cons (o := { dst := some 148, op := Go.Op.call { callee := Go.Callee.value (Go.Operand.func 19), args := #[Go.Operand.tmp 146, Go.Operand.tmp 147], argTypes := #[25, 9] }, type := 31, pos := _, after := #[{ on := 28, ground := Go.Ground.data }, { on := 29, ground := Go.Ground.data }, { on := 27, ground := Go.Ground.chain }, { on := 27, ground := Go.Ground.guard }], guard := some (27, true) }) rfl (fun K hK => ?_) AllReadyH.nil
              go_simp
              (refine (held_sb (o := ord) (Fin.sb hHeld.2)).mono ?_; rintro e w8 ⟨A8, c8, rfl, r8, s8, _⟩)
              (try go_wp2_with fail)
              refine hK.out _ _ ?_ (fun hHeld => ?_)
              · exact ⟨same_cell s8 hHeld.1, Fin.same s8 hHeld.2⟩
              clear hK K
              (try simp only [Act.put, List.setIfInBounds_toArray, List.set_cons_zero, List.set_cons_succ])
              refine wpAnyH_ready (rs := [35]) (by kernel_rfl) (by simp) ?_
              refine AllReadyH.cons (o := { dst := some 153, op := Go.Op.call { callee := Go.Callee.value (Go.Operand.func 24), args := #[Go.Operand.tmp 148, Go.Operand.tmp 152], argTypes := #[31, 9] }, type := 3, pos := _, after := #[{ on := 30, ground := Go.Ground.data }, { on := 34, ground := Go.Ground.data }, { on := 30, ground := Go.Ground.chain }, { on := 27, ground := Go.Ground.guard }], guard := some (27, true) }) rfl (fun K hK => ?_) AllReadyH.nil
              go_simp
              (refine (index_to (c := 1) r8 (by omega) C2.out).mono ?_; rintro e w' ⟨rfl, rfl⟩)
              (try go_wp2_with fail)
              refine hK.out _ _ ?_ (fun hHeld => ?_)
              · exact ⟨hHeld.1, hHeld.2⟩
              clear hK K
              (try simp only [Act.put, List.setIfInBounds_toArray, List.set_cons_zero, List.set_cons_succ])
              refine wpAnyH_take (i := 36) (oi := { dst := some 154, op := Go.Op.binOp Go.BinOp.neq 3 (Go.Operand.tmp 153) (Go.Operand.const (Go.Value.int Go.IntKind.i64 1)) 3, type := 4, pos := _, after := #[{ on := 35, ground := Go.Ground.data }, { on := 27, ground := Go.Ground.guard }], guard := some (27, true) }) (v := ?_) rfl (by kernel_rfl) (by kernel_rfl) (by kernel_rfl) (fun _ _ _ h => h) (Or.inl ⟨by rfl, ?r36⟩) (by assumption) ?_
              case r36 => (intro w hSw; (try dsimp only at hSw); go_simp; (try with_reducible rfl))
              (try simp only [Act.put, List.setIfInBounds_toArray, List.set_cons_zero, List.set_cons_succ])
              refine wpAnyH_take (i := 37) (oi := { dst := some 155, op := Go.Op.move (Go.Operand.tmp 154), type := 4, pos := _, after := #[{ on := 36, ground := Go.Ground.data }, { on := 35, ground := Go.Ground.chain }, { on := 27, ground := Go.Ground.guard }], guard := some (27, true) }) (v := ?_) rfl (by kernel_rfl) (by kernel_rfl) (by kernel_rfl) (fun _ _ _ h => h) (Or.inl ⟨by rfl, ?r37⟩) (by assumption) ?_
              case r37 => (intro w hSw; (try dsimp only at hSw); go_simp; (try with_reducible rfl))
              (try simp only [Act.put, List.setIfInBounds_toArray, List.set_cons_zero, List.set_cons_succ])
              refine wpAnyH_take (i := 38) (oi := { dst := some 156, op := Go.Op.move (Go.Operand.tmp 12), type := 31, pos := _, after := #[{ on := 37, ground := Go.Ground.guard }], guard := some (37, false) }) (v := ?_) rfl (by kernel_rfl) (by kernel_rfl) (by kernel_rfl) (fun _ _ _ h => h) (Or.inl ⟨by rfl, ?r38⟩) (by assumption) ?_
              case r38 => (intro w hSw; (try dsimp only at hSw); go_simp; (try with_reducible rfl))
              (try simp only [Act.put, List.setIfInBounds_toArray, List.set_cons_zero, List.set_cons_succ])
              refine wpAnyH_take (i := 39) (oi := { dst := some 157, op := Go.Op.move (Go.Operand.tmp 4), type := 31, pos := _, after := #[{ on := 37, ground := Go.Ground.guard }], guard := some (37, false) }) (v := ?_) rfl (by kernel_rfl) (by kernel_rfl) (by kernel_rfl) (fun _ _ _ h => h) (Or.inl ⟨by rfl, ?r39⟩) (by assumption) ?_
              case r39 => (intro w hSw; (try dsimp only at hSw); go_simp; (try with_reducible rfl))
              (try simp only [Act.put, List.setIfInBounds_toArray, List.set_cons_zero, List.set_cons_succ])
              refine wpAnyH_take (i := 40) (oi := { dst := some 158, op := Go.Op.move (Go.Operand.tmp 14), type := 3, pos := _, after := #[{ on := 37, ground := Go.Ground.guard }], guard := some (37, false) }) (v := ?_) rfl (by kernel_rfl) (by kernel_rfl) (by kernel_rfl) (fun _ _ _ h => h) (Or.inl ⟨by rfl, ?r40⟩) (by assumption) ?_
              case r40 => (intro w hSw; (try dsimp only at hSw); go_simp; (try with_reducible rfl))
              (try simp only [Act.put, List.setIfInBounds_toArray, List.set_cons_zero, List.set_cons_succ])
              refine wpAnyH_take (i := 41) (oi := { dst := some 159, op := Go.Op.indexAddr 31 (Go.Operand.tmp 157) (Go.Operand.tmp 158), type := 0, pos := _, after := #[{ on := 39, ground := Go.Ground.data }, { on := 40, ground := Go.Ground.data }, { on := 37, ground := Go.Ground.guard }], guard := some (37, false) }) (v := ?_) rfl (by kernel_rfl) (by kernel_rfl) (by kernel_rfl) (fun _ _ _ h => h) (Or.inl ⟨by rfl, ?r41⟩) (by assumption) ?_
              case r41 => (intro w hSw; (try dsimp only at hSw); go_simp; (try with_reducible rfl))
              (try simp only [Act.put, List.setIfInBounds_toArray, List.set_cons_zero, List.set_cons_succ])
              refine wpAnyH_take (i := 42) (oi := { dst := some 160, op := Go.Op.load 9 (Go.Operand.tmp 159), type := 9, pos := _, after := #[{ on := 41, ground := Go.Ground.data }, { on := 37, ground := Go.Ground.guard }], guard := some (37, false) }) (v := ?_) rfl (by kernel_rfl) (by kernel_rfl) (by kernel_rfl) (fun _ _ _ h => h) (Or.inl ⟨by rfl, ?r42⟩) (by assumption) ?_
              case r42 => (intro w hSw; (try dsimp only at hSw); go_simp; (try with_reducible rfl))
              (try simp only [Act.put, List.setIfInBounds_toArray, List.set_cons_zero, List.set_cons_succ])
              refine wpAnyH_ready (rs := [43]) (by kernel_rfl) (by simp) ?_
              refine AllReadyH.cons (o := { dst := some 161, op := Go.Op.call { callee := Go.Callee.value (Go.Operand.func 24), args := #[Go.Operand.tmp 156, Go.Operand.tmp 160], argTypes := #[31, 9] }, type := 3, pos := _, after := #[{ on := 38, ground := Go.Ground.data }, { on := 42, ground := Go.Ground.data }, { on := 37, ground := Go.Ground.chain }, { on := 37, ground := Go.Ground.guard }], guard := some (37, false) }) rfl (fun K hK => ?_) AllReadyH.nil
              go_simp
              (refine (index_to (c := 0) (Fin.rf hHeld.2) (by omega) C3.out).mono ?_; rintro e w' ⟨rfl, rfl⟩)
              (try go_wp2_with fail)
              refine hK.out _ _ ?_ (fun hHeld => ?_)
              · exact ⟨hHeld.1, hHeld.2⟩
              clear hK K
              (try simp only [Act.put, List.setIfInBounds_toArray, List.set_cons_zero, List.set_cons_succ])
              refine wpAnyH_take (i := 44) (oi := { dst := some 162, op := Go.Op.binOp Go.BinOp.neq 3 (Go.Operand.tmp 161) (Go.Operand.const (Go.Value.int Go.IntKind.i64 0)) 3, type := 4, pos := _, after := #[{ on := 43, ground := Go.Ground.data }, { on := 37, ground := Go.Ground.guard }], guard := some (37, false) }) (v := ?_) rfl (by kernel_rfl) (by kernel_rfl) (by kernel_rfl) (fun _ _ _ h => h) (Or.inl ⟨by rfl, ?r44⟩) (by assumption) ?_
              case r44 => (intro w hSw; (try dsimp only at hSw); go_simp; (try with_reducible rfl))
              (try simp only [Act.put, List.setIfInBounds_toArray, List.set_cons_zero, List.set_cons_succ])
              refine wpAnyH_take (i := 45) (oi := { dst := some 163, op := Go.Op.pick (Go.Operand.tmp 155) (Go.Operand.const (Go.Value.bool true)) (Go.Operand.tmp 162), type := 4, pos := _, after := #[{ on := 37, ground := Go.Ground.data }, { on := 44, ground := Go.Ground.data }, { on := 27, ground := Go.Ground.guard }], guard := some (27, true) }) (v := ?_) rfl (by kernel_rfl) (by kernel_rfl) (by kernel_rfl) (fun _ _ _ h => h) (Or.inl ⟨by rfl, ?r45⟩) (by assumption) ?_
              case r45 => (intro w hSw; (try dsimp only at hSw); go_simp; (try with_reducible rfl))
              (try simp only [Act.put, List.setIfInBounds_toArray, List.set_cons_zero, List.set_cons_succ])
              refine wpAnyH_take (i := 46) (oi := { dst := some 164, op := Go.Op.pick (Go.Operand.tmp 145) (Go.Operand.tmp 163) (Go.Operand.const (Go.Value.bool false)), type := 4, pos := _, after := #[{ on := 27, ground := Go.Ground.data }, { on := 45, ground := Go.Ground.data }, { on := 24, ground := Go.Ground.guard }], guard := some (24, false) }) (v := ?_) rfl (by kernel_rfl) (by kernel_rfl) (by kernel_rfl) (fun _ _ _ h => h) (Or.inl ⟨by rfl, ?r46⟩) (by assumption) ?_
              case r46 => (intro w hSw; (try dsimp only at hSw); go_simp; (try with_reducible rfl))
              (try simp only [Act.put, List.setIfInBounds_toArray, List.set_cons_zero, List.set_cons_succ])
              refine wpAnyH_take (i := 47) (oi := { dst := some 165, op := Go.Op.pick (Go.Operand.tmp 142) (Go.Operand.const (Go.Value.bool true)) (Go.Operand.tmp 164), type := 4, pos := _, after := #[{ on := 24, ground := Go.Ground.data }, { on := 46, ground := Go.Ground.data }], guard := none }) (v := ?_) rfl (by kernel_rfl) (by kernel_rfl) (by kernel_rfl) (fun _ _ _ h => h) (Or.inl ⟨by rfl, ?r47⟩) (by assumption) ?_
              case r47 => (intro w hSw; (try dsimp only at hSw); go_simp; (try with_reducible rfl))
              (try simp only [Act.put, List.setIfInBounds_toArray, List.set_cons_zero, List.set_cons_succ])
              refine wpAnyH_done (by kernel_rfl) ?_ _
              refine NoPanic.normal ?_
              rename_i hHeld
              go_wp2
              go_roundw
              case rel => exact HE.out _ hHeld.2
              case measure => simp [intOf]; omega
          · have hj2 : j = s.length := by omega
            subst hj2
            rw [List.take_length] at hnl ⊢
            have hR4 : Rel4 w K5 (w.heap.size + 1) w.heap.size s Ai Ag A5 gs (.int .i64 0) wr := ⟨0, by omega, rfl, fin⟩
            have hall : ((withs s nul).length : Int) + (nh s : Int) = (s.length : Int) := by have := nh_all s; omega
            have HALL := Lib.hid hall
            clear fin hall
            go_wp2
            go_loopw [17] (fun i wr => Rel4 w K5 (w.heap.size + 1) w.heap.size s Ai Ag A5 gs i wr) (fun i _ => gs.length - (intOf i).toNat)
            case atStart => exact hR4
            case round =>
              obtain ⟨j, hj, rfl, fin⟩ := hrel
              clear hR4
              have hbel := fin.sb.bel
              by_cases hjl : j < gs.length
              · obtain ⟨x, hx⟩ : ∃ x, gs[j]? = some x := ⟨gs[j], List.getElem?_eq_getElem hjl⟩
                obtain ⟨gi, oi, rfl, hcx, _⟩ := fin.rg.2.2 j x hx
                have HE : Hid (Rel4 w K5 (w.heap.size + 1) w.heap.size s Ai (some ⟨gi, oi, none⟩) A5 gs (.int .i64 ((j : Int) + 1)) wr) := ⟨j + 1, by omega, by simp, fin⟩
                clear hx
                by_cases hm : x ∈ s.map (·.1)
                · have hct : 0 < (s.map (·.1)).count x := List.count_pos_iff.2 hm
                  have hgs : Hid ((getG s x).isSome = true) := by
                    cases hg : getG s x with
                    | none => exact absurd hm ((getG_none_iff s x).1 hg)
                    | some _ => rfl
                  have hct2 : decide ((0 : Int) < (((s.map (·.1)).count x : Nat) : Int)) = true := decide_eq_true (Int.natCast_pos.2 hct)
                  clear hm
                  go_wp2_with fail
                  refine (of_to (x := x) (b := true) fin.sb rfl hgs.out).mono ?_
                  rintro e w' ⟨rfl, rfl⟩
                  go_wp2_with fail
                  have fri := fin.ri
                  refine (index_any Ai _ ci _ x _ fri (by omega)).mono ?_
                  rintro e w' ⟨rfl, rfl⟩
                  go_wp2
                  go_roundw
                  case rel => exact HE.out
                  case measure => simp [intOf]; omega
                · have hgs : Hid ((getG s x).isSome = false) := by rw [(getG_none_iff s x).2 hm]; rfl
                  have C0 := Lib.hid (count_none hm)
                  clear hm
                  go_wp2_with fail
                  refine (of_to (x := x) (b := false) fin.sb rfl hgs.out).mono ?_
                  rintro e w' ⟨rfl, rfl⟩
                  go_wp2_with fail
                  have fri := fin.ri
                  refine (index_to (c := 0) fri (by omega) C0.out).mono ?_
                  rintro e w' ⟨rfl, rfl⟩
                  go_wp2
                  go_roundw
                  case rel => exact HE.out
                  case measure => simp [intOf]; omega
              · have hall := HALL.out
                go_wp2_with fail
                refine (awake_any _).mono ?_
                rintro e wh ⟨rfl, hb6⟩
                go_wp2
                go_ret
                exact ⟨rfl, hbel.trans (hb6.mono hbel.size)⟩

theorem own : ownKnob Try.prog.godebug = none := by kernel_rfl
theorem laidOut : laidOutB Try.prog = true := by kernel_rfl

set_option maxRecDepth 100000 in
theorem lifted (os : Os) (started : os.Started) (H : Type) (enc : TypeId × Value → H) :
    ReturnsInHanded {} Try.checked os 5 .any (Rows.stockPlacesSpec.pre6 enc Try.prog Try.f5 Rows.stockPlacesRow.domain false) (Rows.stockPlacesSpec.post enc Try.prog Try.f5 false true false false) := by
  refine returnsInHanded_of_change (C := Try.checked) own started (by kernel_rfl) Try.func5
    (ChangeSpec.witness6 (enc := enc) (C := Try.checked) false ⟨#[], #[.slice none 0 0], []⟩ 8 (by kernel_rfl) (by kernel_rfl) (by kernel_rfl) (by kernel_rfl)) ?_
  intro W base args ds gs before hval0 hW hcnd _
  have hval : ∀ (j : Nat) t v, Try.f5.params[j]? = some t → args[j]? = some v → Value.okWide Try.prog W .any base t v := hval0
  have hW' := hW
  obtain ⟨p, q, hA0, hV, rfl, hfz, hnd⟩ := hW
  have hA : DataW.TrodAll enc Try.prog W 0 (fun _ => true) true Try.f5.params.toList args.toList ds p := hA0
  rw [Try.params5] at hA hval
  obtain ⟨v0, vs0, d0, ds0, p0, q0, hargs, rfl, rfl, h0, r0⟩ := trodAll_cons hA
  obtain ⟨rfl, rfl, rfl⟩ := trodAll_nil r0
  obtain rfl : args = #[v0] := by cases args; simp_all
  obtain ⟨rfl, rfl⟩ := trodVars_none hV
  have k0 := h0
  have lt0 : ∀ x ∈ p0, x.block < W.heap.size := by obtain ⟨m, hm⟩ := k0; exact DataW.trod_lt m _ _ _ hm
  have ok0 := hval 0 22 v0 rfl rfl
  obtain ⟨A0, len0, cap0, xs0, rfl, hx0⟩ := open_ops ok0 h0
  clear hA0 hval0
  refine (walk A0 len0 cap0 xs0 W hx0).mono fun e W' ⟨he, bel⟩ => ?_
  subst he
  exact ⟨_, rfl, _, _, _, [], _, [], hW', trodAll_mk1 (shut_bool Try.underlying4 _), (trodAll_cons_mk (Below.trod laidOut (by kernel_rfl) (of_decide_eq_true (by kernel_rfl)) k0 bel lt0) trodAll_mk0), rfl, bel.frame _, fun h => by cases h⟩

theorem over : Rows.stockPlacesRow.holds Try.pinned (OpenSpec.ofChange Rows.stockPlacesSpec) :=
  OpenClaim.holds_of_wide 5 Try.f5 rfl rfl rfl rfl rfl rfl rfl ⟨rfl, rfl, rfl, rfl, rfl⟩ rfl rfl rfl rfl rfl (by kernel_rfl) Try.func5 (by kernel_rfl)
    (of_decide_eq_true (by kernel_rfl)) (by unfold Func.isWrapper; first | (rw [if_pos (by decide +kernel)]; kernel_rfl) | (rw [if_neg (by decide +kernel)]; exact ⟨rfl, rfl⟩))
    (fun os started H enc _ => lifted os started H enc)

theorem proved : Rows.StockPlacesSaid := over
end Go.Proofs.Ytholaaojcpifnaa.stockPlaces
