/-
  The walk of Put.
-/
import Derived.Test.YtahommgchnbnjaaWalke
import Derived.Test.YtahommgchnbnjaaPlainb
import Derived.Deep.RegionHeld3
import Derived.Deep.DrawnRows
namespace Go.Proofs.Ytahommgchnbnjaa
open Go.RowKit
attribute [local go_sem ↓] Go.wp_at_zero Go.wp_at_succ

theorem nul_eq (x : Bs) : (x.toList == nul.toList) = decide (x = nul) := by
  by_cases h : x = nul
  · rw [decide_eq_true h]; exact (Lib.bytes_beq_iff _ _).2 h
  · rw [decide_eq_false h]; exact (Lib.bytes_beq_false_iff _ _).2 h
theorem isEmpty_iff (x : Bs) : x.toList.isEmpty = decide (x = nul) := by
  rw [← nul_eq]
  have : ByteArray.toList nul = [] := by decide +kernel
  rw [this]
  cases x.toList <;> rfl
theorem ne_of {x : Bs} (h : x ≠ nul) : x.toList.isEmpty = false := by rw [isEmpty_iff]; simp [h]
theorem eq_of {x : Bs} (h : x = nul) : x.toList.isEmpty = true := by rw [isEmpty_iff]; simp [h]

/-- The number of puts is turned. -/
theorem IsY.bump {w : World} {g b c p : Nat} {ls : List Bay} (h : IsY w g b ls c p) (q : Nat) : IsY (w.setCell ⟨g, 2, none⟩ (.int .i64 (q : Nat))) g b ls c q ∧ Upd w (w.setCell ⟨g, 2, none⟩ (.int .i64 (q : Nat))) g b ls ls := by
  have f : Fr (fun i => i = g) w (w.setCell ⟨g, 2, none⟩ (.int .i64 (q : Nat))) := (Fr.refl _ _).setCell _ _ (.inl rfl)
  exact ⟨⟨h.blk.set_ 2 _, h.arr.fr f (Ne.symm h.gb), fun k x hx => own_fr (h.row k x hx) f (fun i hi e => by subst e; exact h.ng hx hi), h.apart, h.ok⟩, ⟨f.mono fun i _ e => .inl e, fun _ hi => .inl hi⟩⟩

/-- How Put ends. -/
def PutE (w : World) (g b c : Nat) (ls : List Bay) (y : Ys × Nat × Int) (e : Ending) (w' : World) : Prop := e = .returned (.int .i64 y.2.2) ∧ ∃ ls', IsY w' g b ls' c y.2.1 ∧ ls'.map Bay.es = y.1 ∧ Upd w w' g b ls ls'
theorem PutE.stay {w w' : World} {g b c p : Nat} {ls : List Bay} (h : IsY w g b ls c p) (hs : Same w w') (n : Int) : PutE w g b c ls (ls.map Bay.es, p, n) (.returned (.int .i64 n)) w' := ⟨rfl, ls, h.same hs, rfl, Upd.same hs _ _ _⟩

set_option maxRecDepth 100000 in
set_option maxHeartbeats 2000000 in
theorem put_any (g b c p : Nat) (ls : List Bay) (i : Int) (x : Bs) (w : World) (h : IsY w g b ls c p) (hp : p ≤ 100000) (hi : -9223372036854775808 ≤ i ∧ i ≤ 9223372036854775807) :
    Calls Try.prog 12 #[.pointer (some ⟨g, 0, none⟩), .int .i64 i, .string x] w (PutE w g b c ls (yPut c (ls.map Bay.es) p i x)) := by
  have hl := h.len
  have hc := h.ok.c2
  have H := Lib.hid h
  obtain ⟨n, hn⟩ : ∃ n, ls.length = n := ⟨_, rfl⟩
  have e0 : w.cell? ⟨g, 0, none⟩ = some (.slice (some ⟨b, 0, none⟩) n n) := by rw [← hn]; exact h.blk.cell 0
  rw [hn] at hl
  have HN := Lib.hid hn
  have hlen : (ls.map Bay.es).length = n := by rw [List.length_map, hn]
  have HL := Lib.hid hlen
  obtain ⟨r, hr⟩ : ∃ r, yPut c (ls.map Bay.es) p i x = r := ⟨_, rfl⟩
  have HR := Lib.hid hr
  rw [hr]
  have stay : Hid (∀ (m : Int) (w' : World), r = (ls.map Bay.es, p, m) → Same w w' → PutE w g b c ls r (.returned (.int .i64 m)) w') := fun m w' e hs => by rw [e]; exact PutE.stay H.out hs m
  clear h hn hr hlen
  by_cases h0 : i < 0
  · go_enter Try.func12, Try.ntmps12
    go_wp2
    go_ret
    exact stay.out 9 w (HR.out.symm.trans (yPut_out (.inl h0))) (Same.refl w)
  · by_cases h1 : (n : Int) ≤ i
    · go_enter Try.func12, Try.ntmps12
      go_wp2
      go_ret
      exact stay.out 9 w (HR.out.symm.trans (yPut_out (.inr (by rw [HL.out]; exact h1)))) (Same.refl w)
    · obtain ⟨k, rfl⟩ : ∃ k : Nat, i = k := ⟨i.toNat, by omega⟩
      have hlt : k < n := by omega
      obtain ⟨y, hy⟩ : ∃ x, ls[k]? = some x := ⟨ls[k]'(by have := HN.out; omega), List.getElem?_eq_getElem _⟩
      by_cases hx : x = nul
      · have t := eq_of hx
        have HE := Lib.hid (HR.out.symm.trans (yPut_nul (c := c) (p := p) (by rw [HL.out]; exact hlt) hx))
        clear hx hy
        go_enter Try.func12, Try.ntmps12
        go_wp2
        go_ret
        exact stay.out 6 w HE.out (Same.refl w)
      · have t := ne_of hx
        have HX := Lib.hid hx
        have hyl := H.out.le hy
        have HY := Lib.hid hy
        clear hx hy
        go_enter Try.func12, Try.ntmps12
        go_wp2_with fail
        refine (find_any g b c p ls x w H.out).mono ?_
        rintro e w3 ⟨rfl, hs3⟩
        have hff := yFind_is (ls.map Bay.es) x
        generalize yFind (ls.map Bay.es) x = f at hff ⊢
        obtain ⟨f1, f2, f3⟩ := f
        simp only at hff
        unfold findV
        simp only
        cases f3 with
        | true =>
          have HE := Lib.hid (HR.out.symm.trans (yPut_has (c := c) (p := p) (by rw [HL.out]; exact hlt) HX.out hff.symm))
          have HS := Lib.hid hs3
          clear hff hs3
          go_wp2
          go_ret
          exact stay.out 7 w3 HE.out HS.out
        | false =>
          have HF := Lib.hid hff.symm
          have HS := Lib.hid hs3
          have hY3 := H.out.same hs3
          have q0 := hY3.blk.cell 0
          have q1 := hY3.blk.cell 1
          have q2 := hY3.blk.cell 2
          simp at q0 q1 q2
          rw [HN.out] at q0
          obtain ⟨A, cap, hv, _, _⟩ := row_formN (hY3.row k y HY.out)
          have cx : w3.cell? ⟨b, k, none⟩ = some (.slice A y.es.length cap) := by rw [← hv]; exact hY3.cell HY.out
          have CX := Lib.hid cx
          clear hff hs3 hY3 hv cx
          have i1 : (0 : Int) ≤ (k : Int) := by omega
          have i2 : (k : Int) < (n : Int) := by omega
          by_cases hfull : c ≤ y.es.length
          · have hfull2 : (c : Int) ≤ (y.es.length : Int) := by omega
            have HE := Lib.hid (HR.out.symm.trans (yPut_full (c := c) (p := p) (bay_get HY.out) HX.out HF.out hfull))
            clear hfull
            go_upto_region 10 with fail
            go_quiet (first | (go_at_call 25; exact (size_any b k y.es.length cap A _ (by exact CX.out)).mono fun _ _ ⟨he, hw⟩ => ⟨he, _, hw.symm⟩))
            go_wp2
            go_ret
            exact stay.out 12 _ HE.out (Fr.drewN HS.out _)
          · have hfull2 : ¬ (c : Int) ≤ (y.es.length : Int) := by omega
            have HE := Lib.hid (HR.out.symm.trans (yPut_ok (c := c) (p := p) (bay_get HY.out) HX.out HF.out (by omega)))
            go_upto_region 10 with fail
            go_quiet (first | (go_at_call 25; exact (size_any b k y.es.length cap A _ (by exact CX.out)).mono fun _ _ ⟨he, hw⟩ => ⟨he, _, hw.symm⟩))
            go_upto_region 12 with fail
            have hs4 : Same w (w3.drewN nq) := Fr.drewN HS.out nq
            have HP := Lib.hid (fun W (hW : Same w W) => push_any g b c p k p x ls y W (H.out.same hW) HY.out (by omega))
            have HQ : Hid (∀ (W : World) (v' : Value), IsY W g b (ls.set k ⟨y.es ++ [(x, p)], v'⟩) c p → W.cell? ⟨g, 0, none⟩ = some (.slice (some ⟨b, 0, none⟩) n n) ∧ W.cell? ⟨g, 2, none⟩ = some (.int .i64 p)) := fun W v' hW => by
              have q0 := hW.blk.cell 0
              have q2 := hW.blk.cell 2
              simp at q0 q2
              rw [HN.out] at q0
              exact ⟨q0, q2⟩
            go_region_held3 (fun W => W.cell? ⟨g, 0, none⟩ = some (.slice (some ⟨b, 0, none⟩) n n) ∧ W.cell? ⟨g, 2, none⟩ = some (.int .i64 p))
              (first | exact ⟨q0, q2⟩ | exact HQ.out _ _ hY5)
              ((go_at_call 26; refine (HP.out _ (Fr.drew hs4)).mono ?_; rintro e w5 ⟨rfl, v', hY5, hU5⟩))
            have d2 := (HQ.out _ _ hY5).2
            have d3 := hY5.blk.frozen 2
            have d4 := hY5.blk.lt
            have HB := Lib.hid (hY5.bump (p + 1))
            have HU : Hid (Upd w w5 g b ls (ls.set k ⟨y.es ++ [(x, p)], v'⟩)) := (Upd.same (Fr.drew hs4) g b ls).trans hU5
            clear hY5 hU5 HQ HP hs4 q0 q1 q2 CX
            go_wp2
            go_ret
            rw [HE.out]
            have e : (p : Int) + 1 = ((p + 1 : Nat) : Int) := by omega
            rw [e]
            exact ⟨rfl, _, HB.out.1, by rw [List.map_set], HU.out.trans HB.out.2⟩

end Go.Proofs.Ytahommgchnbnjaa
