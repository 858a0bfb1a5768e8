/-
  The reference's yard in memory; the walks of its New, Bay, Oldest, Len, Same, at, with and without.
-/
import Derived.Test.YtahommgchnbnjaaPlay
namespace Go.Proofs.Ytahommgchnbnjaa
open Go.RowKit

/-- A value of a slice of items that reads as these entries' items. -/
def PV (K : Nat → Prop) (w : World) (xs : List Bs) (v : Value) : Prop := ∃ B cap, v = .slice B xs.length cap ∧ xs.length ≤ cap ∧ cap ≤ 9223372036854775807 ∧ RS w B xs.length xs ∧ ∀ i, InA B i → K i
section
variable {K K' S : Nat → Prop} {w w' : World} {xs : List Bs} {v : Value}
theorem PV.fr (h : PV K w xs v) (hf : Fr S w w') (hn : ∀ i, K i → ¬ S i) : PV K w' xs v := by
  obtain ⟨B, cap, e, h1, h2, hr, hk⟩ := h
  exact ⟨B, cap, e, h1, h2, hr.fr hf (fun i hi => hn i (hk i hi)), hk⟩
theorem PV.same (h : PV K w xs v) (hs : Same w w') : PV K w' xs v := h.fr hs (fun _ _ x => x)
theorem PV.mono (h : PV K w xs v) (hk : ∀ i, K i → K' i) : PV K' w xs v := by
  obtain ⟨B, cap, e, h1, h2, hr, hk'⟩ := h
  exact ⟨B, cap, e, h1, h2, hr, fun i hi => hk i (hk' i hi)⟩
theorem PV.nil (K : Nat → Prop) (w : World) : PV K w [] (.slice none 0 0) := ⟨none, 0, rfl, Nat.le_refl _, by omega, RS.nil _ _, fun _ hi => hi.none_.elim⟩
end
/-- The bays as lists of items. -/
def strs (ys : Ys) : List (List Bs) := ys.map (List.map Prod.fst)
/-- A slice of the reference's bays reads as these bays; all its blocks are among K. -/
def RB (K : Nat → Prop) (w : World) (A : Option Addr) (n : Nat) (ts : List (List Bs)) : Prop :=
  ts.length = n ∧ n ≤ 16 ∧ (∀ i, InA A i → K i) ∧ ∀ k xs, ts[k]? = some xs → ∃ g o v, A = some ⟨g, o, none⟩ ∧ w.cell? ⟨g, o + k, none⟩ = some v ∧ g < w.heap.size ∧ PV K w xs v
section
variable {K K' S : Nat → Prop} {w w' : World} {A : Option Addr} {n : Nat} {ts : List (List Bs)}
theorem RB.fr (h : RB K w A n ts) (hf : Fr S w w') (hn : ∀ i, K i → ¬ S i) : RB K w' A n ts := by
  obtain ⟨h1, h2, h3, h4⟩ := h
  refine ⟨h1, h2, h3, fun k xs hx => ?_⟩
  obtain ⟨g, o, v, e, c0, hg, hp⟩ := h4 k xs hx
  exact ⟨g, o, v, e, cell_fr hf (hn g (h3 g ⟨o, e⟩)) c0, Nat.lt_of_lt_of_le hg hf.size, hp.fr hf hn⟩
theorem RB.same (h : RB K w A n ts) (hs : Same w w') : RB K w' A n ts := h.fr hs (fun _ _ x => x)
theorem RB.mono (h : RB K w A n ts) (hk : ∀ i, K i → K' i) : RB K' w A n ts := by
  obtain ⟨h1, h2, h3, h4⟩ := h
  refine ⟨h1, h2, fun i hi => hk i (h3 i hi), fun k xs hx => ?_⟩
  obtain ⟨g, o, v, e, c0, hg, hp⟩ := h4 k xs hx
  exact ⟨g, o, v, e, c0, hg, hp.mono hk⟩
/-- The values that a slice of bays holds. -/
theorem RB.vals (h : RB K w A n ts) : ∃ vs : List Value, vs.length = n ∧ (∀ (k : Nat) (xs : List Bs) (v : Value), ts[k]? = some xs → vs[k]? = some v → PV K w xs v) ∧ ∀ (k : Nat) (v : Value), vs[k]? = some v → ∃ g o, A = some ⟨g, o, none⟩ ∧ w.cell? ⟨g, o + k, none⟩ = some v := by
  obtain ⟨h1, h2, h3, h4⟩ := h
  have key : ∀ k, k < n → ∃ v, ∃ g o xs, ts[k]? = some xs ∧ A = some ⟨g, o, none⟩ ∧ w.cell? ⟨g, o + k, none⟩ = some v ∧ PV K w xs v := by
    intro k hk
    obtain ⟨g, o, v, e, c0, _, hp⟩ := h4 k ts[k] (List.getElem?_eq_getElem (by omega))
    exact ⟨v, g, o, ts[k], List.getElem?_eq_getElem (by omega), e, c0, hp⟩
  refine ⟨(List.range n).pmap (fun k hk => Classical.choose (key k hk)) (fun k hk => List.mem_range.1 hk), by simp, ?_, ?_⟩
  · intro k xs v hx hv
    have hk : k < n := by rw [← h1]; exact (List.getElem?_eq_some_iff.1 hx).1
    have hve : v = Classical.choose (key k hk) := by
      have := (List.getElem?_eq_some_iff.1 hv).2
      simpa using this.symm
    obtain ⟨g, o, xs', hx', _, _, hp⟩ := Classical.choose_spec (key k hk)
    rw [← hve] at hp
    rw [hx] at hx'
    cases hx'
    exact hp
  · intro k v hv
    have hk : k < n := by have := (List.getElem?_eq_some_iff.1 hv).1; simpa using this
    have hve : v = Classical.choose (key k hk) := by
      have := (List.getElem?_eq_some_iff.1 hv).2
      simpa using this.symm
    obtain ⟨g, o, xs', _, e, c0, _⟩ := Classical.choose_spec (key k hk)
    rw [← hve] at c0
    exact ⟨g, o, e, c0⟩
theorem RB.of_own {base : Nat} {v : Value} {vs : List Value} (h : w.ownsRow base 31 1 v n vs) (hn : ts.length = n) (h16 : n ≤ 16) (hp : ∀ (k : Nat) (xs : List Bs) (u : Value), ts[k]? = some xs → vs[k]? = some u → PV K w xs u) (hk : ∀ i, v.ownBlock = some i → K i) :
    ∃ A cap, v = .slice A n cap ∧ RB K w A n ts := by
  obtain ⟨A, cap, hv, _, hc⟩ := row_form h
  have hl : vs.length = n := by have := h.1; omega
  refine ⟨A, cap, hv, hn, h16, fun i ⟨o, e⟩ => hk i ?_, fun k xs hx => ?_⟩
  · rcases h.2 with ⟨h3, _⟩ | ⟨g', c', cur, h3, _⟩
    · rw [hv] at h3
      cases h3
      cases e
    · rw [h3]
      rw [hv] at h3
      cases h3
      cases e
      rfl
  · have hkn : k < n := by rw [← hn]; exact (List.getElem?_eq_some_iff.1 hx).1
    obtain ⟨gi, e1, c1, _, hg⟩ := hc k vs[k] (List.getElem?_eq_getElem (by omega))
    exact ⟨gi, 0, vs[k], e1, by simpa using c1, hg, hp k xs _ hx (List.getElem?_eq_getElem (by omega))⟩
end

/-- A reference's yard as a value. -/
def rv (c : Nat) (A : Option Addr) (n cap : Nat) (G : Option Addr) (m capG : Nat) : Value := .agg #[.int .i64 c, .slice A n cap, .slice G m capG]
/-- A reference's yard: its bays and its ages. -/
structure RY (K : Nat → Prop) (w : World) (A : Option Addr) (n : Nat) (G : Option Addr) (m capG : Nat) (ts : List (List Bs)) (ages : List Bs) : Prop where
  rb : RB K w A n ts
  ag : RS w G m ages
  mc : m ≤ capG
  cc : capG ≤ 9223372036854775807
  gk : ∀ i, InA G i → K i
section
variable {K K' S : Nat → Prop} {w w' : World} {A G : Option Addr} {n m capG : Nat} {ts : List (List Bs)} {ages : List Bs}
theorem RY.fr (h : RY K w A n G m capG ts ages) (hf : Fr S w w') (hn : ∀ i, K i → ¬ S i) : RY K w' A n G m capG ts ages := ⟨h.rb.fr hf hn, h.ag.fr hf (fun i hi => hn i (h.gk i hi)), h.mc, h.cc, h.gk⟩
theorem RY.same (h : RY K w A n G m capG ts ages) (hs : Same w w') : RY K w' A n G m capG ts ages := h.fr hs (fun _ _ x => x)
theorem RY.mono (h : RY K w A n G m capG ts ages) (hk : ∀ i, K i → K' i) : RY K' w A n G m capG ts ages := ⟨h.rb.mono hk, h.ag, h.mc, h.cc, fun i hi => hk i (h.gk i hi)⟩
end
theorem box47 (w : World) (x y z : Value) : Same w (w.alloc (.cells #[x, y, z] 47)) := (Fr.refl _ _).alloc _

/-! ### The small functions -/
theorem info31 : (Try.prog.info? 31).map (fun i => (i.zero, i.size, i.bytes)) = some (some (.slice none 0 0), 1, 24) := by kernel_rfl
theorem rlen_any (c : Nat) (A : Option Addr) (n cap : Nat) (G : Option Addr) (m capG : Nat) (w : World) : Calls Try.prog 32 #[rv c A n cap G m capG] w fun e w' => e = .returned (.int .i64 m) ∧ Same w w' := by
  unfold rv
  go_enter Try.func32, Try.ntmps32
  go_wp2
  go_ret
  exact ⟨rfl, box47 _ _ _ _⟩
theorem roldest_any (c : Nat) (A : Option Addr) (n cap : Nat) (G : Option Addr) (m capG : Nat) (ages : List Bs) (w : World) (h : RS w G m ages) : Calls Try.prog 21 #[rv c A n cap G m capG] w fun e w' => e = .returned (.tuple #[.string (ages.head?.getD nul), .bool ages.head?.isSome]) ∧ Same w w' := by
  unfold rv
  cases ages with
  | nil =>
    have hm : m = 0 := h.1.symm
    subst hm
    go_enter Try.func21, Try.ntmps21
    go_wp2
    refine bodyPost_ret (results_tmp2 rfl _ _ _) rfl ?_
    exact ⟨rfl, box47 _ _ _ _⟩
  | cons a l =>
    have hm : m ≠ 0 := by have := h.1; simp at this; omega
    have hm2 : ((m : Int) == 0) = false := by
      simp
      exact hm
    have hm3 : 0 < m := by omega
    obtain ⟨g, o, rfl, c0, hg⟩ := h.2.2 0 a rfl
    clear h hm
    simp only [Nat.add_zero] at c0
    go_enter Try.func21, Try.ntmps21
    go_wp2
    refine bodyPost_ret (results_tmp2 rfl _ _ _) rfl ?_
    exact ⟨rfl, box47 _ _ _ _⟩

set_option maxHeartbeats 1000000 in
theorem rsame_any (A B : Option Addr) (n cA cB : Nat) (xs : List Bs) (w : World) (ha : RS w A n xs) (hb : RS w B n xs) : Calls Try.prog 30 #[.slice A n cA, .slice B n cB] w fun e w' => e = .returned (.bool true) ∧ Same w w' := by
  have hn := ha.2.1
  have HA := Lib.hid ha
  have HB := Lib.hid hb
  clear ha hb
  go_enter Try.func30, Try.ntmps30
  go_wp2
  go_loopw [5] (fun i wr => ∃ k : Nat, k ≤ n ∧ i = .int .i64 k ∧ ∃ m, wr = w.drewN m) (fun i _ => n - (intOf i).toNat)
  case atStart => exact ⟨0, by omega, rfl, 0, rfl⟩
  case round =>
    obtain ⟨k, hk, rfl, m, rfl⟩ := hrel
    by_cases hlt : k < n
    · obtain ⟨x, hx⟩ : ∃ x, xs[k]? = some x := ⟨xs[k]'(by rw [HA.out.1]; exact hlt), List.getElem?_eq_getElem _⟩
      obtain ⟨g, o, rfl, ca, _⟩ := HA.out.2.2 k x hx
      obtain ⟨g', o', rfl, cb, _⟩ := HB.out.2.2 k x hx
      have i1 : (0 : Int) ≤ (k : Int) := by omega
      have i2 : (k : Int) < (n : Int) := by omega
      clear hx
      go_upto_region 6 with fail
      go_quiet (fail)
      go_wp2
      go_roundw
      case rel => exact ⟨k + 1, by omega, by go_num, m + nq, by first | rfl | exact drewN_add w m nq⟩
      case measure => simp [intOf]; omega
    · go_wp2
      go_ret
      exact ⟨rfl, Same.drewN w m⟩

/-- What the reference's Bay returns. -/
def tBay (ts : List (List Bs)) (i : Int) : List Bs := if i < 0 ∨ (ts.length : Int) ≤ i then [] else ts[i.toNat]?.getD []
theorem tBay_out {ts : List (List Bs)} {i : Int} (h : i < 0 ∨ (ts.length : Int) ≤ i) : tBay ts i = [] := if_pos h
theorem tBay_in {ts : List (List Bs)} {i : Nat} {xs : List Bs} (h : ts[i]? = some xs) : tBay ts i = xs := by
  have := (List.getElem?_eq_some_iff.1 h).1
  unfold tBay
  rw [if_neg (by omega), Int.toNat_natCast, h]
  rfl
theorem tBay_strs (ys : Ys) (i : Int) : tBay (strs ys) i = yBay ys i := by
  unfold tBay yBay strs
  rw [List.length_map]
  split
  · rfl
  · rw [List.getElem?_map]
    cases ys[i.toNat]? <;> rfl
/-- How the reference's Bay ends. -/
def RBayE (w : World) (xs : List Bs) (e : Ending) (w' : World) : Prop := ∃ B capB, e = .returned (.slice B xs.length capB) ∧ RS w' B xs.length xs ∧ Same w w'
set_option maxRecDepth 100000 in
theorem rbay_any (K : Nat → Prop) (c : Nat) (A : Option Addr) (n cap : Nat) (G : Option Addr) (m capG : Nat) (ts : List (List Bs)) (i : Int) (w : World) (h : RB K w A n ts) (hi : -9223372036854775808 ≤ i ∧ i ≤ 9223372036854775807) :
    Calls Try.prog 31 #[rv c A n cap G m capG, .int .i64 i] w (RBayE w (tBay ts i)) := by
  have hn := h.2.1
  have hl := h.1
  unfold rv
  by_cases h0 : i < 0
  · rw [tBay_out (.inl h0)]
    clear h
    go_enter Try.func31, Try.ntmps31
    go_wp2
    go_ret
    exact ⟨none, 0, rfl, RS.nil _ _, box47 _ _ _ _⟩
  · by_cases h1 : (n : Int) ≤ i
    · rw [tBay_out (.inr (by rw [hl]; exact h1))]
      clear h
      go_enter Try.func31, Try.ntmps31
      go_wp2
      go_ret
      exact ⟨none, 0, rfl, RS.nil _ _, box47 _ _ _ _⟩
    · obtain ⟨k, rfl⟩ : ∃ k : Nat, i = k := ⟨i.toNat, by omega⟩
      have hk : k < ts.length := by omega
      obtain ⟨g, o, v, rfl, c0, hg, B, capB, rfl, _, _, hrs, _⟩ := h.2.2.2 k ts[k] (List.getElem?_eq_getElem hk)
      rw [tBay_in (List.getElem?_eq_getElem hk)]
      generalize ts[k] = xs at c0 hrs
      have hkn : k < n := by omega
      have i1 : (0 : Int) ≤ (k : Int) := by omega
      have i2 : (k : Int) < (n : Int) := by omega
      have HRS := Lib.hid hrs
      clear h hrs
      go_enter Try.func31, Try.ntmps31
      go_wp2
      go_ret
      exact ⟨B, capB, rfl, HRS.out.same (box47 _ _ _ _), box47 _ _ _ _⟩

/-- The place of an item in a list; -1 if there is none. -/
def atI (xs : List Bs) (x : Bs) : Int := match xs.findIdx? (fun y => decide (y = x)) with
  | some k => (k : Int)
  | none => -1
theorem atI_hit {xs : List Bs} {x : Bs} {k : Nat} (h0 : ∀ y ∈ xs.take k, y ≠ x) (h : xs[k]? = some x) : atI xs x = k := by
  unfold atI
  have : xs.findIdx? (fun y => decide (y = x)) = some k := by
    rw [List.findIdx?_eq_some_iff_getElem]
    obtain ⟨hl, he⟩ := List.getElem?_eq_some_iff.1 h
    refine ⟨hl, by simp [he], fun j hj => ?_⟩
    have := h0 xs[j] (List.mem_take_iff_getElem.2 ⟨j, by omega, rfl⟩)
    simpa using this
  rw [this]
theorem atI_none {xs : List Bs} {x : Bs} (h0 : ∀ y ∈ xs, y ≠ x) : atI xs x = -1 := by
  unfold atI
  have : xs.findIdx? (fun y => decide (y = x)) = none := by
    rw [List.findIdx?_eq_none_iff]
    intro y hy
    simpa using h0 y hy
  rw [this]
theorem snoc_ne {xs : List Bs} {x y : Bs} {k : Nat} (h0 : ∀ y ∈ xs.take k, y ≠ x) (h : xs[k]? = some y) (hy : y ≠ x) : ∀ y ∈ xs.take (k + 1), y ≠ x := by
  intro z hz
  rw [List.take_add_one, h] at hz
  rcases List.mem_append.1 hz with hz | hz
  · exact h0 z hz
  · simp at hz
    subst hz
    exact hy
set_option maxRecDepth 100000 in
set_option maxHeartbeats 1000000 in
theorem at_any (A : Option Addr) (n cap : Nat) (xs : List Bs) (x : Bs) (w : World) (h : RS w A n xs) : Calls Try.prog 38 #[.slice A n cap, .string x] w fun e w' => e = .returned (.int .i64 (atI xs x)) ∧ w = w' := by
  have hn := h.2.1
  have hl := h.1
  have H := Lib.hid h
  obtain ⟨r, hr⟩ : ∃ r, atI xs x = r := ⟨_, rfl⟩
  have HR := Lib.hid hr
  rw [hr]
  clear h hr
  go_enter Try.func38, Try.ntmps38
  go_wp2
  go_loop [5] (fun i => ∃ k : Nat, k ≤ n ∧ i = .int .i64 k ∧ Hid (∀ y ∈ xs.take k, y ≠ x)) (fun i => n - (intOf i).toNat)
  case atStart => exact ⟨0, by omega, rfl, fun y hy => by simp at hy⟩
  case round =>
    obtain ⟨k, hk, rfl, hno⟩ := hrel
    by_cases hlt : k < n
    · obtain ⟨y, hy⟩ : ∃ y, xs[k]? = some y := ⟨xs[k]'(by omega), List.getElem?_eq_getElem _⟩
      obtain ⟨g, o, rfl, c0, _⟩ := H.out.2.2 k y hy
      have i1 : (0 : Int) ≤ (k : Int) := by omega
      have i2 : (k : Int) < (n : Int) := by omega
      by_cases hyx : y = x
      · have ky : (y.toList == x.toList) = true := (Lib.bytes_beq_iff _ _).2 hyx
        have HE : Hid (r = (k : Int)) := by unfold Hid; rw [← HR.out]; exact atI_hit hno.out (by rw [← hyx]; exact hy)
        clear hyx hy
        go_wp2
        go_ret
        exact ⟨by rw [HE.out]; rfl, rfl⟩
      · have ky : (y.toList == x.toList) = false := (Lib.bytes_beq_false_iff _ _).2 hyx
        have HN := Lib.hid (snoc_ne hno.out hy hyx)
        clear hyx hy
        go_wp2
        go_round
        case rel => exact ⟨k + 1, by omega, by go_num, HN⟩
        case measure => simp [intOf]; omega
    · have HE : Hid (r = -1) := by
        unfold Hid
        rw [← HR.out]
        exact atI_none (by have := hno.out; rwa [List.take_of_length_le (by omega)] at this)
      go_wp2
      go_ret
      exact ⟨by rw [HE.out]; rfl, rfl⟩

end Go.Proofs.Ytahommgchnbnjaa
