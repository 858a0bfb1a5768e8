/-
  The walks of Find and Oldest.
-/
import Derived.Test.YtahommgchnbnjaaPlain
namespace Go.Proofs.Ytahommgchnbnjaa
open Go.RowKit

theorem ls_take {ls : List Bay} {k : Nat} {x : Bay} {P : Ent → Prop} (h0 : ∀ es ∈ (ls.map Bay.es).take k, ∀ e ∈ es, P e) (hx : ls[k]? = some x) (h1 : ∀ e ∈ x.es, P e) : ∀ es ∈ (ls.map Bay.es).take (k + 1), ∀ e ∈ es, P e := by
  intro es he
  rw [List.take_add_one, List.getElem?_map, hx] at he
  rcases List.mem_append.1 he with he | he
  · exact h0 es he
  · simp at he
    subst he
    exact h1
theorem es_take {es : List Ent} {m : Nat} {e : Ent} {P : Ent → Prop} (h0 : ∀ e ∈ es.take m, P e) (he : es[m]? = some e) (h1 : P e) : ∀ e ∈ es.take (m + 1), P e := by
  intro e' he'
  rw [List.take_add_one, he] at he'
  rcases List.mem_append.1 he' with h | h
  · exact h0 e' h
  · simp at h
    subst h
    exact h1
theorem bay_get {ls : List Bay} {k : Nat} {x : Bay} (hx : ls[k]? = some x) : (ls.map Bay.es)[k]? = some x.es := by simp [hx]
/-- The cells of an entry of a bay. -/
theorem IsY.ent {w : World} {g b c p : Nat} {ls : List Bay} (h : IsY w g b ls c p) {k m : Nat} {x : Bay} {e : Ent} (hx : ls[k]? = some x) (he : x.es[m]? = some e) :
    ∃ gi cap, x.v = .slice (some ⟨gi, 0, none⟩) x.es.length cap ∧ w.cell? ⟨gi, m * 2, none⟩ = some (.string e.1) ∧ w.cell? ⟨gi, m * 2 + 1, none⟩ = some (.int .i64 e.2) ∧ gi < w.heap.size := by
  obtain ⟨A, cap, hv, _, hc⟩ := row_formN (h.row k x hx)
  obtain ⟨h1, h2⟩ := cellsE_get x.es m e he
  obtain ⟨gi, rfl, c1, _, hl⟩ := hc _ _ h1
  obtain ⟨gi', e', c2, _, _⟩ := hc _ _ h2
  cases e'
  exact ⟨gi, cap, hv, c1, c2, hl⟩

set_option maxRecDepth 100000 in
set_option maxHeartbeats 1000000 in
theorem find_any (g b c p : Nat) (ls : List Bay) (x : Bs) (w : World) (h : IsY w g b ls c p) : Calls Try.prog 16 #[.pointer (some ⟨g, 0, none⟩), .string x] w fun e w' => e = .returned (findV (yFind (ls.map Bay.es) x)) ∧ Same w w' := by
  have hl := h.len
  have hc := h.ok.c2
  have H := Lib.hid h
  obtain ⟨n, hn⟩ : ∃ n, ls.length = n := ⟨_, rfl⟩
  have e0 : w.cell? ⟨g, 0, none⟩ = some (.slice (some ⟨b, 0, none⟩) n n) := by rw [← hn]; exact h.blk.cell 0
  rw [hn] at hl
  have HN := Lib.hid hn
  obtain ⟨r, hr⟩ : ∃ r, yFind (ls.map Bay.es) x = r := ⟨_, rfl⟩
  have HR := Lib.hid hr
  rw [hr]
  clear h hn hr
  go_enter Try.func16, Try.ntmps16
  go_wp2
  go_loopw [18] (fun i' wr => ∃ k : Nat, k ≤ n ∧ i' = .int .i64 k ∧ Hid (∀ es ∈ (ls.map Bay.es).take k, ∀ e ∈ es, e.1 ≠ x) ∧ Same w wr) (fun i' _ => n - (intOf i').toNat)
  case atStart => exact ⟨0, by omega, rfl, fun es he => by simp at he, Same.refl w⟩
  case round =>
    obtain ⟨k, hk, rfl, hno, hs⟩ := hrel
    by_cases hlt : k < n
    · obtain ⟨y, hy⟩ : ∃ x, ls[k]? = some x := ⟨ls[k]'(by have := HN.out; omega), List.getElem?_eq_getElem _⟩
      have hyl := H.out.le hy
      obtain ⟨A, cap, hv, _, _⟩ := row_formN (H.out.row k y hy)
      have cx : wr.cell? ⟨b, k, none⟩ = some (.slice A y.es.length cap) := by rw [← hv]; exact (H.out.same hs).cell hy
      have hlt2 : (k : Int) < (n : Int) := by omega
      have HS := Lib.hid hs
      have HV := Lib.hid hv
      have HY := Lib.hid hy
      clear hs hv hy
      obtain ⟨wo, rfl⟩ : ∃ wo : World, wo = wr := ⟨_, rfl⟩
      go_wp2
      go_loopw [26] (fun i' wi => ∃ m : Nat, m ≤ y.es.length ∧ i' = .int .i64 m ∧ Hid (∀ e ∈ y.es.take m, e.1 ≠ x) ∧ Same w wi ∧ wi.cell? ⟨wo.heap.size, 0, none⟩ = some (.slice A y.es.length cap)) (fun i' _ => y.es.length - (intOf i').toNat)
      case atStart => exact ⟨0, by omega, rfl, fun es he => by simp at he, Fr.alloc HS.out _, by simp⟩
      case round =>
        obtain ⟨m, hm, rfl, hnm, hs, hcw⟩ := hrel
        by_cases hml : m < y.es.length
        · obtain ⟨e, he⟩ : ∃ e, y.es[m]? = some e := ⟨y.es[m], List.getElem?_eq_getElem hml⟩
          obtain ⟨gi, cap', hv', c0, c1, hgl⟩ := (H.out.same hs).ent HY.out he
          rw [HV.out] at hv'
          cases hv'
          have hml2 : (m : Int) < (y.es.length : Int) := by omega
          have hz := World.block_lt_of_cell? _ _ hcw
          simp only at hz
          by_cases hex : e.1 = x
          · have ky : (e.1.toList == x.toList) = true := (Lib.bytes_beq_iff _ _).2 hex
            have HE : Hid (r = (k, y.es.length - 1 - m, true)) := by
              unfold Hid
              rw [← HR.out]
              unfold yFind
              rw [findY_hit _ _ 0 k m y.es e hno.out (bay_get HY.out) hnm.out he hex]
              simp only [Nat.zero_add]
              rw [lenAt_bay HY.out]
            have HS2 := Lib.hid hs
            clear hex he HR hs
            go_wp2_with fail
            refine (size_any wo.heap.size 0 y.es.length cap (some ⟨gi, 0, none⟩) _ (by rw [World.cell?_alloc_lt _ _ _ hz]; exact hcw)).mono ?_
            rintro e' w1 ⟨rfl, rfl⟩
            go_wp2
            refine bodyPost_ret (results_tmp3 rfl _ _ _) rfl ?_
            refine ⟨?_, Fr.alloc HS2.out _⟩
            rw [HE.out]
            have hi : (y.es.length : Int) - 1 - (m : Int) = ((y.es.length - 1 - m : Nat) : Int) := by omega
            simp [findV, hi]
          · have ky : (e.1.toList == x.toList) = false := (Lib.bytes_beq_false_iff _ _).2 hex
            have HNM := Lib.hid (es_take hnm.out he hex)
            have HS2 := Lib.hid hs
            have HCW := Lib.hid hcw
            have HZ := Lib.hid hz
            clear hex he hs
            go_wp2
            go_roundw
            case rel => exact ⟨m + 1, by omega, by go_num, HNM, Fr.alloc HS2.out _, by rw [World.cell?_alloc_lt _ _ _ HZ.out]; exact HCW.out⟩
            case measure => simp [intOf]; omega
        · have HN2 := Lib.hid (ls_take (P := fun e => e.1 ≠ x) hno.out HY.out (by have := hnm.out; rwa [List.take_of_length_le (by omega)] at this))
          have HS2 := Lib.hid hs
          clear hs
          go_wp2
          go_roundw
          case rel => exact ⟨k + 1, by omega, by go_num, HN2, HS2.out⟩
          case measure => simp [intOf]; omega
    · have HE : Hid (r = (0, 0, false)) := by
        unfold Hid
        rw [← HR.out]
        unfold yFind
        rw [findY_none _ _ 0 (by have := hno.out; rwa [List.take_of_length_le (by rw [List.length_map, HN.out]; omega)] at this)]
      go_wp2
      refine bodyPost_ret (results_tmp3 rfl _ _ _) rfl ?_
      exact ⟨by rw [HE.out]; rfl, hs⟩

/-- What Oldest knows behind k bays and m entries. -/
structure OldR (w : World) (ys : Ys) (k m : Nat) (f : Value) (wr : World) : Prop where
  f : f = .bool (oldKM ys k m).isSome
  same : Same w wr
  blk : Blk wr w.heap.size 67 #[.string ((oldKM ys k m).getD (nul, 0)).1, .int .i64 (((oldKM ys k m).getD (nul, 0)).2 : Nat)]
theorem OldR.put {w : World} {ys : Ys} {k m : Nat} {f : Value} {wr : World} {es : List Ent} {e : Ent} (h : OldR w ys k m f wr) (h1 : ys[k]? = some es) (h2 : es[m]? = some e) (h3 : stepO (oldKM ys k m) e = some e) (o : Obj) :
    OldR w ys k (m + 1) (.bool true) (((wr.setCell ⟨w.heap.size, 0, none⟩ (.string e.1)).setCell ⟨w.heap.size, 1, none⟩ (.int .i64 (e.2 : Nat))).alloc o) := by
  have hk : oldKM ys k (m + 1) = some e := by rw [oldKM_entry h1 h2, h3]
  refine ⟨by rw [hk]; rfl, Fr.alloc (Fr.setCell (Fr.setCell h.same _ _ (.inr (Nat.le_refl _))) _ _ (.inr (Nat.le_refl _))) _, ?_⟩
  rw [hk]
  exact ((h.blk.set_ 0 (.string e.1)).set_ 1 (.int .i64 (e.2 : Nat))).alloc o
theorem OldR.pass {w : World} {ys : Ys} {k m : Nat} {f : Value} {wr : World} {es : List Ent} {e a : Ent} (h : OldR w ys k m f wr) (h1 : ys[k]? = some es) (h2 : es[m]? = some e) (h3 : stepO (oldKM ys k m) e = some a) (h4 : oldKM ys k m = some a) (o : Obj) :
    OldR w ys k (m + 1) (.bool true) (wr.alloc o) := by
  have hk : oldKM ys k (m + 1) = some a := by rw [oldKM_entry h1 h2, h3]
  have hb := h.blk
  rw [h4] at hb
  exact ⟨by rw [hk]; rfl, Fr.alloc h.same _, by rw [hk]; exact hb.alloc o⟩

set_option maxRecDepth 100000 in
set_option maxHeartbeats 1000000 in
theorem oldest_any (g b c p : Nat) (ls : List Bay) (w : World) (h : IsY w g b ls c p) : Calls Try.prog 13 #[.pointer (some ⟨g, 0, none⟩)] w fun e w' => e = .returned (oldV (yOld (ls.map Bay.es))) ∧ Same w w' := by
  have hl := h.len
  have H := Lib.hid h
  obtain ⟨n, hn⟩ : ∃ n, ls.length = n := ⟨_, rfl⟩
  have e0 : w.cell? ⟨g, 0, none⟩ = some (.slice (some ⟨b, 0, none⟩) n n) := by rw [← hn]; exact h.blk.cell 0
  have hgl := h.blk.lt
  rw [hn] at hl
  have HN := Lib.hid hn
  have hs0 : Same w (w.alloc (.cells #[.string nul, .int .i64 0] 67)) := (Fr.refl _ _).alloc _
  have HR0 : Hid (OldR w (ls.map Bay.es) 0 0 (.bool false) (w.alloc (.cells #[.string nul, .int .i64 0] 67))) := ⟨by rw [oldKM_zero]; rfl, hs0, by rw [oldKM_zero]; exact Blk.new _ _ _⟩
  unfold nul at HR0
  obtain ⟨r, hr⟩ : ∃ r, yOld (ls.map Bay.es) = r := ⟨_, rfl⟩
  have HR := Lib.hid hr
  rw [hr]
  clear h hn hs0 hr
  go_enter Try.func13, Try.ntmps13
  go_wp2
  go_loopw [17, 5] (fun i' f wr => ∃ k : Nat, k ≤ n ∧ i' = .int .i64 k ∧ OldR w (ls.map Bay.es) k 0 f wr) (fun i' _ _ => n - (intOf i').toNat)
  case atStart => exact ⟨0, by omega, rfl, HR0.out⟩
  case round =>
    obtain ⟨k, hk, rfl, hO⟩ := hrel
    clear HR0
    by_cases hlt : k < n
    · obtain ⟨y, hy⟩ : ∃ x, ls[k]? = some x := ⟨ls[k]'(by have := HN.out; omega), List.getElem?_eq_getElem _⟩
      have hyl := H.out.le hy
      have hc2 := H.out.ok.c2
      obtain ⟨A, cap, hv, _, _⟩ := row_formN (H.out.row k y hy)
      have cx : wr.cell? ⟨b, k, none⟩ = some (.slice A y.es.length cap) := by rw [← hv]; exact (H.out.same hO.same).cell hy
      have hlt2 : (k : Int) < (n : Int) := by omega
      have HO := Lib.hid hO
      have HV := Lib.hid hv
      have HY := Lib.hid hy
      obtain ⟨hf⟩ := hO
      clear hv hy
      obtain ⟨wo, rfl⟩ : ∃ wo : World, wo = wr := ⟨_, rfl⟩
      go_wp2
      go_loopw [24, 5] (fun i' f wi => ∃ m : Nat, m ≤ y.es.length ∧ i' = .int .i64 m ∧ OldR w (ls.map Bay.es) k m f wi) (fun i' _ _ => y.es.length - (intOf i').toNat)
      case atStart => exact ⟨0, by omega, rfl, HO.out.f, Fr.alloc HO.out.same _, HO.out.blk.alloc _⟩
      case round =>
        obtain ⟨m, hm, rfl, hO2⟩ := hrel
        by_cases hml : m < y.es.length
        · obtain ⟨e, he⟩ : ∃ e, y.es[m]? = some e := ⟨y.es[m], List.getElem?_eq_getElem hml⟩
          obtain ⟨gi, cap', hv', c0, c1, hgl⟩ := (H.out.same hO2.same).ent HY.out he
          rw [HV.out] at hv'
          cases hv'
          have hml2 : (m : Int) < (y.es.length : Int) := by omega
          have HO2 := Lib.hid hO2
          have hbl := hO2.blk
          have hz := hbl.lt
          have d0 := hbl.cell 0
          have d1 := hbl.cell 1
          have d2 := hbl.frozen 0
          have d3 := hbl.frozen 1
          simp at d0 d1
          have hff := hO2.f
          subst hff
          cases ho : oldKM (ls.map Bay.es) k m with
          | none =>
            rw [ho] at d0 d1
            simp only [Option.getD_none] at d0 d1
            have HP := Lib.hid (fun o => HO2.out.put (bay_get HY.out) he (by rw [ho]; rfl) o)
            simp only [Option.isSome_none]
            clear hO2 hbl he ho
            go_wp2
            go_roundw
            case rel => exact ⟨m + 1, by omega, by go_num, HP.out _⟩
            case measure => simp [intOf]; omega
          | some a =>
            rw [ho] at d0 d1
            simp only [Option.getD_some] at d0 d1
            simp only [Option.isSome_some]
            by_cases hea : e.2 < a.2
            · have hea2 : (e.2 : Int) < (a.2 : Int) := by omega
              have HP := Lib.hid (fun o => HO2.out.put (bay_get HY.out) he (by rw [ho]; simp [stepO, hea]) o)
              clear hO2 hbl he ho
              go_wp2
              go_roundw
              case rel => exact ⟨m + 1, by omega, by go_num, HP.out _⟩
              case measure => simp [intOf]; omega
            · have hea2 : ¬ (e.2 : Int) < (a.2 : Int) := by omega
              have HP := Lib.hid (fun o => HO2.out.pass (bay_get HY.out) he (by rw [ho]; simp [stepO, hea]) ho o)
              clear hO2 hbl he ho
              go_wp2
              go_roundw
              case rel => exact ⟨m + 1, by omega, by go_num, HP.out _⟩
              case measure => simp [intOf]; omega
        · have HO3 : Hid (OldR w (ls.map Bay.es) (k + 1) 0 u5 wr) := by
            have hm' : m = y.es.length := by omega
            subst hm'
            have e := oldKM_bay (bay_get HY.out)
            exact ⟨by rw [e]; exact hO2.f, hO2.same, by rw [e]; exact hO2.blk⟩
          clear hO2
          go_wp2
          go_roundw
          case rel => exact ⟨k + 1, by omega, by go_num, HO3.out⟩
          case measure => simp [intOf]; omega
    · have hkn : k = n := by omega
      have hbl := hO.blk
      have hff := hO.f
      subst hff
      have HS := Lib.hid hO.same
      have e := oldKM_end (ys := ls.map Bay.es) (k := k) (by rw [List.length_map, HN.out]; exact hkn)
      rw [e, HR.out] at hbl
      rw [e, HR.out]
      clear hO e
      have d0 := hbl.cell 0
      simp at d0
      clear hbl
      go_wp2
      refine bodyPost_ret (results_tmp2 rfl _ _ _) rfl ?_
      refine ⟨?_, HS.out⟩
      cases r <;> rfl

end Go.Proofs.Ytahommgchnbnjaa
