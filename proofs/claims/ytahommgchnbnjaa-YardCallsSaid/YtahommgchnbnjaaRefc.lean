/-
  The walks of the reference's changed, Find and room.
-/
import Derived.Test.YtahommgchnbnjaaAlike
namespace Go.Proofs.Ytahommgchnbnjaa
open Go.RowKit
attribute [local go_sem ↓] Go.wp_at_zero Go.wp_at_succ

/-- How changed ends. -/
def ChE (w : World) (K : Nat → Prop) (c n : Nat) (G : Option Addr) (m capG : Nat) (ts : List (List Bs)) (e : Ending) (w' : World) : Prop :=
  ∃ A cap, e = .returned (rv c A n cap G m capG) ∧ Same w w' ∧ RB (fun i => K i ∨ (w.heap.size ≤ i ∧ i < w'.heap.size)) w' A n ts
theorem one_pv {K : Nat → Prop} {w : World} {xs : List Bs} {v : Value} (h : PV K w xs v) : v.oneCell' = true := by obtain ⟨B, cap, rfl, _⟩ := h; rfl
/-- What holds at the head of each round of changed. -/
structure ChR (w : World) (x y z x' y' z' : Value) (vs : List Value) (k : Nat) (v : Value) (wr : World) : Prop where
  own : wr.ownsRow (w.heap.size + 1 + 1) 31 1 v k (vs.take k)
  same : Same w wr
  b0 : Blk wr w.heap.size 47 #[x, y, z]
  b1 : Blk wr (w.heap.size + 1) 47 #[x', y', z']
theorem ChR.step {w wr w2 : World} {x y z x' y' z' u : Value} {vs : List Value} {k : Nat} {v v' : Value} {o : Obj} (h : ChR w x y z x' y' z' vs k v wr) (hu : vs[k]? = some u) (hown : w2.ownsRow (w.heap.size + 1 + 1) 31 1 v' (k + 1) (vs.take k ++ [u])) (hgr : (wr.alloc o).grownBy w2 v.ownBlock) : ChR w x y z x' y' z' vs (k + 1) v' w2 := by
  have hs2 : Fr (fun i => v.ownBlock = some i) wr w2 := ((Fr.refl _ _).alloc o).trans (Fr.of_row hgr)
  have e : vs.take (k + 1) = vs.take k ++ [u] := by rw [List.take_add_one, hu]; rfl
  refine ⟨by rw [e]; exact hown, fr_trans2 h.same hs2 (fun i hi ho => by have := own_base h.own ho; omega), h.b0.fr hs2 (fun ho => by have := own_base h.own ho; omega), h.b1.fr hs2 (fun ho => by have := own_base h.own ho; omega)⟩

set_option maxRecDepth 100000 in
set_option maxHeartbeats 1000000 in
theorem changed_any (K : Nat → Prop) (c : Nat) (A : Option Addr) (n cap : Nat) (G : Option Addr) (m capG : Nat) (ts : List (List Bs)) (i : Nat) (xs : List Bs) (u : Value) (w : World) (h : RB K w A n ts) (hi : i < n) (hu : PV K w xs u) :
    Calls Try.prog 34 #[rv c A n cap G m capG, .int .i64 i, u] w (ChE w K c n G m capG (ts.set i xs)) := by
  obtain ⟨i0, hi0, hz0, hz1, hz2⟩ := info_parts info31
  have hn := h.2.1
  have hl := h.1
  obtain ⟨vs, hvl, hvp, hvc⟩ := h.vals
  have HU := Lib.hid hu
  have HV := Lib.hid hvc
  have HP := Lib.hid hvp
  obtain ⟨us, hus⟩ : ∃ us, vs.set i u = us := ⟨_, rfl⟩
  have HUS := Lib.hid hus
  have HUL : Hid (us.length = n) := by unfold Hid; rw [← hus]; simp [hvl]
  have HUP : Hid (∀ (k : Nat) (x : List Bs) (v : Value), (ts.set i xs)[k]? = some x → us[k]? = some v → PV K w x v) := fun k x v hx hv => by
    rw [← HUS.out] at hv
    rw [List.getElem?_set] at hx hv
    by_cases e : i = k
    · rw [if_pos e, if_pos (by omega)] at hx hv
      cases hx
      cases hv
      exact HU.out
    · rw [if_neg e] at hx hv
      exact HP.out k x v hx hv
  have hone : Hid (∀ v ∈ us, v.oneCell' = true) := fun v hv => by
    obtain ⟨k, hk, rfl⟩ := List.mem_iff_getElem.1 hv
    have h1 := HUL.out
    exact one_pv (HUP.out k ((ts.set i xs)[k]'(by simp; omega)) _ (List.getElem?_eq_getElem _) (List.getElem?_eq_getElem _))
  obtain ⟨B, capu, hue, _⟩ := hu
  subst hue
  obtain ⟨ul, hul⟩ : ∃ ul, xs.length = ul := ⟨_, rfl⟩
  have hs0 := box47 w (.int .i64 c) (.slice A n cap) (.slice G m capG)
  have hs1 : Same w ((w.alloc (.cells #[.int .i64 c, .slice A n cap, .slice G m capG] 47)).alloc (.cells #[.int .i64 0, .slice none 0 0, .slice none 0 0] 47)) := Fr.alloc hs0 _
  have HR0 : Hid (ChR w (.int .i64 c) (.slice A n cap) (.slice G m capG) (.int .i64 0) (.slice none 0 0) (.slice none 0 0) us 0 (.slice none 0 0) ((w.alloc (.cells #[.int .i64 c, .slice A n cap, .slice G m capG] 47)).alloc (.cells #[.int .i64 0, .slice none 0 0, .slice none 0 0] 47))) := by
    refine ⟨own_nil _ _ _ _, hs1, (Blk.new w 47 _).alloc _, ?_⟩
    have := Blk.new (w.alloc (.cells #[.int .i64 c, .slice A n cap, .slice G m capG] 47)) 47 #[.int .i64 0, .slice none 0 0, .slice none 0 0]
    rw [World.size_alloc] at this
    exact this
  rw [hul] at HUS HU
  have HUSE := Lib.hid HUS.out
  clear h hs0 hs1 hvp hvc hus
  unfold rv
  rw [hul]
  go_enter Try.func34, Try.ntmps34
  go_wp2
  go_loopw [7, 8] (fun v i' wr => ∃ k : Nat, k ≤ n ∧ i' = .int .i64 k ∧ ChR w (.int .i64 c) (.slice A n cap) (.slice G m capG) (.int .i64 0) (.slice none 0 0) (.slice none 0 0) us k v wr) (fun _ i' _ => n - (intOf i').toNat)
  case atStart => exact ⟨0, by omega, rfl, HR0.out⟩
  case round =>
    obtain ⟨k, hk, rfl, hR⟩ := hrel
    clear HR0
    have d1 := hR.b0.cell 1
    simp at d1
    by_cases hlt : k < n
    · have i1 : (0 : Int) ≤ (k : Int) := by omega
      have i2 : (k : Int) < (n : Int) := by omega
      have hsz := hR.same.size
      have hbb := hR.b1.lt
      by_cases hki : k = i
      · have t : ((k : Int) == (i : Int)) = true := by simp [hki]
        have hus : us[k]? = some (.slice B ul capu) := by
          rw [← HUS.out, List.getElem?_set, if_pos hki.symm, if_pos (by omega)]
        have HST := Lib.hid (fun w2 v' o ho hg => hR.step (w2 := w2) (v' := v') (o := o) hus ho hg)
        have HO := Lib.hid hR.own
        clear hki hus hR
        go_wp2_with ((at_builtin; refine wpList_append_any _ rfl (.tmp 19) (.tmp 21) 45 rfl (w.heap.size + 1 + 1) 31 i0 _ 1 24 Try.underlying45 hi0 hz0 hz1 hz2 rfl (by decide) _ k (us.take k) rfl (HO.out.alloc _) (wr.heap.size + 1) (some ⟨wr.heap.size, 0, none⟩) 1 1 [.slice B ul capu] rfl (reads_one wr 31 (.slice B ul capu)) (by simp [Value.oneCell']) (by unfold maxLen; omega) (by omega) (by simp; omega) ?_; intro v2 w2 hown2 hgr2 hat2))
        have HRR := Lib.hid (HST.out w2 v2 _ hown2 hgr2)
        clear hown2 hgr2 hat2 HST d1
        go_wp2
        go_roundw
        case rel => exact ⟨k + 1, by omega, by go_num, HRR.out⟩
        case measure => simp [intOf]; omega
      · have t : ((k : Int) == (i : Int)) = false := by
          have : (k : Int) ≠ i := by omega
          simp [this]
        obtain ⟨v0, hv0⟩ : ∃ v0, vs[k]? = some v0 := ⟨vs[k]'(by omega), List.getElem?_eq_getElem _⟩
        have hus : us[k]? = some v0 := by
          rw [← HUS.out, List.getElem?_set, if_neg (fun e => hki e.symm)]
          exact hv0
        obtain ⟨g, o, hA, c0⟩ := HV.out k v0 hv0
        have c0' := same_cell hR.same c0
        obtain ⟨B0, cap0, hv0e, _⟩ := HP.out k (ts[k]'(by omega)) v0 (List.getElem?_eq_getElem _) hv0
        have ho1 := one_pv (HP.out k (ts[k]'(by omega)) v0 (List.getElem?_eq_getElem _) hv0)
        generalize (ts[k]'(by omega)).length = l0 at hv0e
        subst hv0e
        subst hA
        have HST := Lib.hid (fun w2 v' o ho hg => hR.step (w2 := w2) (v' := v') (o := o) hus ho hg)
        have HO := Lib.hid hR.own
        clear hki hus hR hv0 c0
        go_wp2_with ((at_builtin; refine wpList_append_any _ rfl (.tmp 23) (.tmp 29) 45 rfl (w.heap.size + 1 + 1) 31 i0 _ 1 24 Try.underlying45 hi0 hz0 hz1 hz2 rfl (by decide) _ k (us.take k) rfl (HO.out.alloc _) (wr.heap.size + 1) (some ⟨wr.heap.size, 0, none⟩) 1 1 [.slice B0 l0 cap0] rfl (reads_one wr 31 (.slice B0 l0 cap0)) (by simp [Value.oneCell']) (by unfold maxLen; omega) (by omega) (by simp; omega) ?_; intro v2 w2 hown2 hgr2 hat2))
        have HRR := Lib.hid (HST.out w2 v2 _ hown2 hgr2)
        clear hown2 hgr2 hat2 HST d1
        go_wp2
        go_roundw
        case rel => exact ⟨k + 1, by omega, by go_num, HRR.out⟩
        case measure => simp [intOf]; omega
    · obtain rfl : k = n := by omega
      have hown := hR.own
      rw [List.take_of_length_le (by have := HUL.out; omega)] at hown
      obtain ⟨A2, cap2, hv2, _, _⟩ := row_form hown
      subst hv2
      have e0 := hR.b0.cell 0
      have e2 := hR.b0.cell 2
      have e3 := hR.b0.frozen 1
      have e4 := hR.b1.cell 0
      have e5 := hR.b1.cell 1
      have e6 := hR.b1.cell 2
      have e7 := hR.b1.frozen 0
      have e8 := hR.b1.frozen 1
      have e9 := hR.b1.frozen 2
      have z0 := hR.b0.lt
      have z1 := hR.b1.lt
      simp at e0 e2 e4 e5 e6
      have HRR := Lib.hid hR
      have HOW := Lib.hid hown
      clear hR hown
      go_wp2
      have f4 : Fr (fun j => j = w.heap.size ∨ j = w.heap.size + 1) wr ((((wr.setCell ⟨w.heap.size, 1, none⟩ (.slice A2 k cap2)).setCell ⟨w.heap.size + 1, 0, none⟩ (.int .i64 c)).setCell ⟨w.heap.size + 1, 1, none⟩ (.slice A2 k cap2)).setCell ⟨w.heap.size + 1, 2, none⟩ (.slice G m capG)) :=
        Fr.setCell (Fr.setCell (Fr.setCell (Fr.setCell (Fr.refl _ _) ⟨w.heap.size, 1, none⟩ _ (.inl (.inl rfl))) ⟨w.heap.size + 1, 0, none⟩ _ (.inl (.inr rfl))) ⟨w.heap.size + 1, 1, none⟩ _ (.inl (.inr rfl))) ⟨w.heap.size + 1, 2, none⟩ _ (.inl (.inr rfl))
      have n4 := (((HRR.out.b1.far (p := ⟨w.heap.size, 1, none⟩) (by show w.heap.size + 1 ≠ w.heap.size; omega) (.slice A2 k cap2)).set_ 0 (.int .i64 c)).set_ 1 (.slice A2 k cap2)).set_ 2 (.slice G m capG)
      generalize ((((wr.setCell ⟨w.heap.size, 1, none⟩ (.slice A2 k cap2)).setCell ⟨w.heap.size + 1, 0, none⟩ (.int .i64 c)).setCell ⟨w.heap.size + 1, 1, none⟩ (.slice A2 k cap2)).setCell ⟨w.heap.size + 1, 2, none⟩ (.slice G m capG)) = W4 at f4 n4 ⊢
      have y0 := n4.cell 0
      have y1 := n4.cell 1
      have y2 := n4.cell 2
      simp at y0 y1 y2
      have hs4 : Same w W4 := fr_trans2 HRR.out.same f4 (fun j hj e => by omega)
      have ho4 := own_fr HOW.out f4 (fun j hj e => by have := own_base HOW.out hj; omega)
      obtain ⟨A3, cap3, e3', hRB⟩ := RB.of_own (K := fun j => K j ∨ (w.heap.size ≤ j ∧ j < W4.heap.size)) (ts := ts.set i xs) ho4 (by simp [hl]) hn (fun j x v hx hv => ((HUP.out j x v hx hv).same hs4).mono fun j hj => .inl hj) (fun j hj => by
        have := own_lt ho4 hj
        exact .inr ⟨by omega, this.2⟩)
      cases e3'
      exact bodyPost_ret (v := rv c A2 k cap2 G m capG) (by simp [results, Try.results34, go_sem, rv, y0, y1, y2]) rfl ⟨A2, cap2, rfl, hs4, hRB⟩

/-! ### Find and room, beside the plain words -/
theorem strs_get {ys : Ys} {k : Nat} {es : List Ent} (h : ys[k]? = some es) : (strs ys)[k]? = some (es.map Prod.fst) := by simp [strs, h]
theorem atE_atI (es : List Ent) (x : Bs) : atI (es.map Prod.fst) x = match atE es x 0 with | some k => (k : Int) | none => -1 := by
  cases h : atE es x 0 with
  | none =>
    have := atE_none_inv es x 0 h
    simp only
    exact atI_none (fun y hy => by
      obtain ⟨e, he, rfl⟩ := List.mem_map.1 hy
      exact this e he)
  | some k =>
    obtain ⟨m, e, h1, h2, h3, h4⟩ := atE_inv es x 0 k h
    obtain rfl : k = m := by omega
    simp only
    refine atI_hit (fun y hy => ?_) (by simp [h2, h3])
    rw [← List.map_take] at hy
    obtain ⟨e', he', rfl⟩ := List.mem_map.1 hy
    exact h4 e' he'
set_option maxRecDepth 100000 in
set_option maxHeartbeats 1000000 in
theorem rfind_any (K : Nat → Prop) (c : Nat) (A : Option Addr) (n cap : Nat) (G : Option Addr) (m capG : Nat) (ys : Ys) (x : Bs) (w : World) (h : RB K w A n (strs ys)) (hle : ∀ es ∈ ys, es.length ≤ 32) :
    Calls Try.prog 33 #[rv c A n cap G m capG, .string x] w fun e w' => e = .returned (findV (yFind ys x)) ∧ Same w w' := by
  have hn := h.2.1
  have hl : ys.length = n := by have := h.1; simpa [strs] using this
  have hs := box47 w (.int .i64 c) (.slice A n cap) (.slice G m capG)
  have H := Lib.hid (h.same hs)
  have HL := Lib.hid hle
  obtain ⟨r, hr⟩ : ∃ r, yFind ys x = r := ⟨_, rfl⟩
  have HR := Lib.hid hr
  rw [hr]
  have HS := Lib.hid hs
  unfold rv
  clear h hle hr hs
  go_enter Try.func33, Try.ntmps33
  go_wp2
  go_loop [7] (fun i => ∃ k : Nat, k ≤ n ∧ i = .int .i64 k ∧ Hid (∀ es ∈ ys.take k, ∀ e ∈ es, e.1 ≠ x)) (fun i => n - (intOf i).toNat)
  case atStart => exact ⟨0, by omega, rfl, fun b hb => by simp at hb⟩
  case round =>
    obtain ⟨k, hk, rfl, hno⟩ := hrel
    by_cases hlt : k < n
    · obtain ⟨es, hes⟩ : ∃ es, ys[k]? = some es := ⟨ys[k]'(by omega), List.getElem?_eq_getElem _⟩
      obtain ⟨g, o, v, hA, c0, _, B, capB, hv, _, _, hrs, _⟩ := H.out.2.2.2 k _ (strs_get hes)
      subst hA
      rw [List.length_map] at hv hrs
      have hel := HL.out es (List.mem_of_getElem? hes)
      have hai := atE_atI es x
      obtain ⟨N, hN⟩ : ∃ N, es.length = N := ⟨_, rfl⟩
      rw [hN] at hv hrs hel
      subst hv
      have i1 : (0 : Int) ≤ (k : Int) := by omega
      have i2 : (k : Int) < (n : Int) := by omega
      have HRS := Lib.hid hrs
      have HES := Lib.hid hes
      cases ha : atE es x 0 with
      | some q =>
        rw [ha] at hai
        simp only at hai
        obtain ⟨q', e, h1, h2, h3, h4⟩ := atE_inv es x 0 q ha
        obtain rfl : q = q' := by omega
        have hqN : q < N := by rw [← hN]; exact (List.getElem?_eq_some_iff.1 h2).1
        have HE : Hid (r = (k, N - 1 - q, true)) := by
          unfold Hid
          rw [← HR.out]
          unfold yFind
          rw [findY_hit ys x 0 k q es e hno.out HES.out h4 h2 h3]
          simp only [Nat.zero_add]
          rw [lenAt_some HES.out, hN]
        have H38 : Hid (∀ W, RS W B N (es.map Prod.fst) → Calls Try.prog 38 #[.slice B N capB, .string x] W fun e w' => e = .returned (.int .i64 (q : Int)) ∧ W = w') := fun W hW => by
          have := at_any B N capB _ x W hW
          rw [hai] at this
          exact this
        have q1 : (0 : Int) ≤ (q : Int) := by omega
        clear hai ha h1 h2 h3 h4 hes hrs HR hN
        go_wp2_with fail
        refine (H38.out _ HRS.out).mono ?_
        rintro e' w1 ⟨rfl, rfl⟩
        go_upto_region 6 with fail
        go_quiet (fail)
        go_wp2
        refine bodyPost_ret (results_tmp3 rfl _ _ _) rfl ?_
        refine ⟨?_, Fr.drewN HS.out _⟩
        rw [HE.out]
        have hi : (N : Int) - 1 - (q : Int) = ((N - 1 - q : Nat) : Int) := by omega
        simp [findV, hi]
      | none =>
        rw [ha] at hai
        simp only at hai
        have hne := atE_none_inv es x 0 ha
        have HN2 : Hid (∀ es ∈ ys.take (k + 1), ∀ e ∈ es, e.1 ≠ x) := fun es' he' => by
          rw [List.take_add_one, HES.out] at he'
          rcases List.mem_append.1 he' with he' | he'
          · exact hno.out es' he'
          · simp at he'
            subst he'
            exact hne
        have H38 : Hid (∀ W, RS W B N (es.map Prod.fst) → Calls Try.prog 38 #[.slice B N capB, .string x] W fun e w' => e = .returned (.int .i64 (-1 : Int)) ∧ W = w') := fun W hW => by
          have := at_any B N capB _ x W hW
          rw [hai] at this
          exact this
        clear hai ha hne hes hrs HR hN
        go_wp2_with fail
        refine (H38.out _ HRS.out).mono ?_
        rintro e' w1 ⟨rfl, rfl⟩
        go_wp2
        go_round
        case rel => exact ⟨k + 1, by omega, by go_num, HN2⟩
        case measure => simp [intOf]; omega
    · have HE : Hid (r = (0, 0, false)) := by
        unfold Hid
        rw [← HR.out]
        unfold yFind
        rw [findY_none _ _ 0 (by have := hno.out; rwa [List.take_of_length_le (by omega)] at this)]
      go_wp2
      refine bodyPost_ret (results_tmp3 rfl _ _ _) rfl ?_
      exact ⟨by rw [HE.out]; rfl, HS.out⟩

/-- What the reference's room returns. -/
def rroom (c : Nat) (ys : Ys) (i : Nat) : Int := match (List.range ys.length).find? (firstK c ys i) with
  | some j => (j : Int)
  | none => -1
theorem rroom_hit {c i k : Nat} {ys : Ys} (hk : k < ys.length) (h0 : ∀ j, j < k → firstK c ys i j = false) (h : firstK c ys i k = true) : rroom c ys i = k := by
  unfold rroom
  have : (List.range ys.length).find? (firstK c ys i) = some k := by
    rw [List.find?_eq_some_iff_getElem]
    refine ⟨h, k, by simpa using hk, by simp, fun j hj => ?_⟩
    simp [h0 j hj]
  rw [this]
theorem rroom_none {c i : Nat} {ys : Ys} (h0 : ∀ j, j < ys.length → firstK c ys i j = false) : rroom c ys i = -1 := by
  unfold rroom
  have : (List.range ys.length).find? (firstK c ys i) = none := by
    rw [List.find?_eq_none]
    intro j hj
    rw [h0 j (List.mem_range.1 hj)]
    simp
  rw [this]
theorem rroom_some {c i : Nat} {ys : Ys} (h : 0 < roomK c ys i ys.length) : rroom c ys i = firstS c ys i := by
  obtain ⟨h1, h2, h3⟩ := firstS_room ys.length (Nat.le_refl _) h
  unfold rroom firstS at *
  cases e : (List.range ys.length).find? (firstK c ys i) with
  | some j => rfl
  | none =>
    rw [e] at h2
    exact absurd rfl h2
theorem roomK_zero {c i : Nat} {ys : Ys} : ∀ k, k ≤ ys.length → roomK c ys i k = 0 → ∀ j, j < k → firstK c ys i j = false
  | 0, _, _, j, hj => by omega
  | k + 1, hk, h, j, hj => by
    unfold roomK at h
    by_cases e : j = k
    · subst e
      unfold firstK
      by_cases e2 : j = i
      · simp [e2]
      · rw [if_neg e2] at h
        have : ¬ lenAt ys j < c := by omega
        simp [this]
    · exact roomK_zero k (by omega) (by omega) j (by omega)
theorem rroom_full {c i : Nat} {ys : Ys} (h : roomK c ys i ys.length = 0) : rroom c ys i = -1 := rroom_none (roomK_zero _ (Nat.le_refl _) h)

set_option maxRecDepth 100000 in
set_option maxHeartbeats 1000000 in
theorem rroom_any (K : Nat → Prop) (c : Nat) (A : Option Addr) (n cap : Nat) (G : Option Addr) (m capG : Nat) (ys : Ys) (i : Nat) (w : World) (h : RB K w A n (strs ys)) (hle : ∀ es ∈ ys, es.length ≤ 32) (hc : c ≤ 32) :
    Calls Try.prog 36 #[rv c A n cap G m capG, .int .i64 i] w fun e w' => e = .returned (.int .i64 (rroom c ys i)) ∧ Same w w' := by
  have hn := h.2.1
  have hl : ys.length = n := by have := h.1; simpa [strs] using this
  have hs := box47 w (.int .i64 c) (.slice A n cap) (.slice G m capG)
  have b0 := Blk.new w 47 #[.int .i64 c, .slice A n cap, .slice G m capG]
  have H := Lib.hid (h.same hs)
  have HL := Lib.hid hle
  obtain ⟨r, hr⟩ : ∃ r, rroom c ys i = r := ⟨_, rfl⟩
  have HR := Lib.hid hr
  rw [hr]
  obtain ⟨W0, hW0⟩ : ∃ W0, w.alloc (.cells #[.int .i64 c, .slice A n cap, .slice G m capG] 47) = W0 := ⟨_, rfl⟩
  rw [hW0] at H hs b0
  have HS := Lib.hid hs
  have HW0 := Lib.hid hW0
  have B0 := Lib.hid b0
  unfold rv
  clear h hle hr hs b0 hW0
  go_enter Try.func36, Try.ntmps36
  go_wp2
  rw [HW0.out]
  clear HW0
  go_loopw [5] (fun i' wr => ∃ k : Nat, k ≤ n ∧ i' = .int .i64 k ∧ Hid (∀ j, j < k → firstK c ys i j = false) ∧ ∃ q, wr = W0.drewN q) (fun i' _ => n - (intOf i').toNat)
  case atStart => exact ⟨0, by omega, rfl, fun j hj => by omega, 0, rfl⟩
  case round =>
    obtain ⟨k, hk, rfl, hno, q, rfl⟩ := hrel
    have d0 := (B0.out.drewN q).cell 0
    have d1 := (B0.out.drewN q).cell 1
    simp at d0 d1
    by_cases hlt : k < n
    · obtain ⟨es, hes⟩ : ∃ es, ys[k]? = some es := ⟨ys[k]'(by omega), List.getElem?_eq_getElem _⟩
      obtain ⟨g, o, v, hA, c0, _, B, capB, hv, _⟩ := H.out.2.2.2 k _ (strs_get hes)
      subst hA
      rw [List.length_map] at hv
      have hel := HL.out es (List.mem_of_getElem? hes)
      have hfk : firstK c ys i k = (decide (k ≠ i) && decide (es.length < c)) := by unfold firstK; rw [lenAt_some hes]
      obtain ⟨N, hN⟩ : ∃ N, es.length = N := ⟨_, rfl⟩
      rw [hN] at hv hel hfk
      subst hv
      have HFK := Lib.hid hfk
      have i1 : (0 : Int) ≤ (k : Int) := by omega
      have i2 : (k : Int) < (n : Int) := by omega
      have HF : Hid (firstK c ys i k = false → ∀ j, j < k + 1 → firstK c ys i j = false) := fun hf j hj => by
        rcases Nat.lt_or_ge j k with h1 | h1
        · exact hno.out j h1
        · have : j = k := by omega
          subst this
          exact hf
      clear hfk hes hN
      by_cases hki : k = i
      · have t : ((k : Int) != (i : Int)) = false := by simp [hki]
        have HE := Lib.hid (HF.out (by rw [HFK.out]; simp [hki]))
        clear HFK hki HF
        go_upto_region 4 with fail
        go_quiet (fail)
        go_wp2
        go_roundw
        case rel => exact ⟨k + 1, by omega, by go_num, HE, q + nq, by first | rfl | exact drewN_add W0 q nq⟩
        case measure => simp [intOf]; omega
      · have t : ((k : Int) != (i : Int)) = true := by
          have : (k : Int) ≠ i := by omega
          simp [this]
        by_cases hlc : N < c
        · have t2 : (N : Int) < (c : Int) := by omega
          have HE : Hid (r = (k : Int)) := by
            unfold Hid
            rw [← HR.out]
            exact rroom_hit (by omega) hno.out (by rw [HFK.out]; simp [hki, hlc])
          clear HFK hki HF
          go_upto_region 4 with fail
          go_quiet (fail)
          go_wp2
          go_ret
          exact ⟨by rw [HE.out]; rfl, Fr.drewN (Fr.drewN HS.out _) _⟩
        · have t2 : ¬ (N : Int) < (c : Int) := by omega
          have HE := Lib.hid (HF.out (by rw [HFK.out]; simp [hlc]))
          clear HFK hki HF
          go_upto_region 4 with fail
          go_quiet (fail)
          go_wp2
          go_roundw
          case rel => exact ⟨k + 1, by omega, by go_num, HE, q + nq, by first | rfl | exact drewN_add W0 q nq⟩
          case measure => simp [intOf]; omega
    · have HE : Hid (r = -1) := by
        unfold Hid
        rw [← HR.out]
        exact rroom_none (fun j hj => hno.out j (by omega))
      go_wp2
      go_ret
      exact ⟨by rw [HE.out]; rfl, Fr.drewN HS.out _⟩

end Go.Proofs.Ytahommgchnbnjaa
