/-
  The reference's account in memory; the walks of its New, check, Left and Expired.
-/
import Derived.Test.YtpapgldjmglaiaaSpread
namespace Go.Proofs.Ytpapgldjmglaiaa
open Go.RowKit

/-- A slice of credits reads as this list. -/
def RC (w : World) (A : Option Addr) (n : Nat) (l : List Cr) : Prop :=
  l.length = n ∧ n ≤ 200 ∧ ∀ k e, l[k]? = some e → ∃ g o, A = some ⟨g, o, none⟩ ∧ w.cell? ⟨g, o + k * 2, none⟩ = some (.int .i64 e.1) ∧ w.cell? ⟨g, o + k * 2 + 1, none⟩ = some (.int .i64 e.2) ∧ g < w.heap.size
theorem RC.fr {w w' : World} {A : Option Addr} {n : Nat} {l : List Cr} {S : Nat → Prop} (h : RC w A n l) (hf : Fr S w w') (hn : ∀ i, InA A i → ¬ S i) : RC w' A n l := by
  obtain ⟨h1, h2, h3⟩ := h
  refine ⟨h1, h2, fun k e he => ?_⟩
  obtain ⟨g, o, hA, c0, c1, hg⟩ := h3 k e he
  exact ⟨g, o, hA, cell_fr hf (hn g ⟨o, hA⟩) c0, cell_fr hf (hn g ⟨o, hA⟩) c1, Nat.lt_of_lt_of_le hg hf.size⟩
theorem RC.same {w w' : World} {A : Option Addr} {n : Nat} {l : List Cr} (h : RC w A n l) (hs : Same w w') : RC w' A n l := h.fr hs (fun _ _ x => x)
theorem RC.nil (w : World) (A : Option Addr) : RC w A 0 [] := ⟨rfl, by omega, fun k e he => by simp at he⟩

/-- A reference's account as a value; its cells. -/
def rcs (a : Ac) (A : Option Addr) (n cap : Nat) : Array Value := #[.int .i64 a.F, .int .i64 a.P, .int .i64 a.T, .int .i64 a.cr, .int .i64 a.cl, .slice A n cap]
def rv (a : Ac) (A : Option Addr) (n cap : Nat) : Value := .agg (rcs a A n cap)
theorem box30 (w : World) (cs : Array Value) : Same w (w.alloc (.cells cs 30)) := (Fr.refl _ _).alloc _

/-! ### New -/
theorem rnew_any (F P : Int) (w : World) (f1 : 0 ≤ F) (f2 : F ≤ 1000) (p1 : 1 ≤ P) (p2 : P ≤ 24) :
    Calls Try.prog 9 #[.int .i64 F, .int .i64 P] w fun e w' => e = .returned (.tuple #[rv ⟨F, P, -1, 0, 0, fun _ => 0⟩ none 0 0, .int .i64 0]) ∧ Same w w' := by
  go_enter Try.func9, Try.ntmps9
  go_wp2
  exact bodyPost_ret (v := .tuple #[rv ⟨F, P, -1, 0, 0, fun _ => 0⟩ none 0 0, .int .i64 0]) (by simp [results, Try.results9, go_sem, rv, rcs]) rfl ⟨rfl, box30 _ _⟩
def rzero : Value := .agg #[.int .i64 0, .int .i64 0, .int .i64 0, .int .i64 0, .int .i64 0, .slice none 0 0]
set_option maxHeartbeats 400000 in
theorem rnew_bad (F P : Int) (w : World) (h : F < 0 ∨ F > 1000 ∨ P < 1 ∨ P > 24) : Calls Try.prog 9 #[.int .i64 F, .int .i64 P] w fun e w' => e = .returned (.tuple #[rzero, .int .i64 9]) ∧ Same w w' := by
  by_cases h1 : F < 0
  · clear h
    go_enter Try.func9, Try.ntmps9
    go_wp2
    exact bodyPost_ret (v := .tuple #[rzero, .int .i64 9]) (by simp [results, Try.results9, go_sem, rzero]) rfl ⟨rfl, box30 _ _⟩
  · by_cases h2 : F > 1000
    · clear h
      go_enter Try.func9, Try.ntmps9
      go_wp2
      exact bodyPost_ret (v := .tuple #[rzero, .int .i64 9]) (by simp [results, Try.results9, go_sem, rzero]) rfl ⟨rfl, box30 _ _⟩
    · by_cases h3 : P < 1
      · clear h
        go_enter Try.func9, Try.ntmps9
        go_wp2
        exact bodyPost_ret (v := .tuple #[rzero, .int .i64 9]) (by simp [results, Try.results9, go_sem, rzero]) rfl ⟨rfl, box30 _ _⟩
      · have h4 : P > 24 := by omega
        clear h
        go_enter Try.func9, Try.ntmps9
        go_wp2
        exact bodyPost_ret (v := .tuple #[rzero, .int .i64 9]) (by simp [results, Try.results9, go_sem, rzero]) rfl ⟨rfl, box30 _ _⟩

/-! ### check -/
set_option maxHeartbeats 400000 in
theorem rcheck_any (a : Ac) (A : Option Addr) (n cap : Nat) (per vol : Int) (w : World) : Calls Try.prog 25 #[rv a A n cap, .int .i64 per, .int .i64 vol] w fun e w' => e = .returned (.int .i64 (a.check per vol)) ∧ Same w w' := by
  unfold rv rcs
  by_cases h0 : per < 0
  · have e : a.check per vol = 15 := by unfold Ac.check Ac.isP; rw [if_pos (.inl (by simp; omega))]
    rw [e]
    clear e
    go_enter Try.func25, Try.ntmps25
    go_wp2
    go_ret
    exact ⟨rfl, box30 _ _⟩
  · by_cases h1 : per > 1000000
    · have e : a.check per vol = 15 := by unfold Ac.check Ac.isP; rw [if_pos (.inl (by simp; omega))]
      rw [e]
      clear e
      go_enter Try.func25, Try.ntmps25
      go_wp2
      go_ret
      exact ⟨rfl, box30 _ _⟩
    · by_cases h2 : per < a.T
      · have e : a.check per vol = 15 := by unfold Ac.check; rw [if_pos (.inr h2)]
        rw [e]
        clear e
        go_enter Try.func25, Try.ntmps25
        go_wp2
        go_ret
        exact ⟨rfl, box30 _ _⟩
      · have e : a.check per vol = if vol < 0 ∨ vol > 1125899906842624 then 9 else 0 := by unfold Ac.check Ac.isP; rw [if_neg (by simp; omega)]
        rw [e]
        clear e
        by_cases h3 : vol < 0
        · rw [if_pos (.inl h3)]
          go_enter Try.func25, Try.ntmps25
          go_wp2
          go_ret
          exact ⟨rfl, box30 _ _⟩
        · by_cases h4 : vol > 1125899906842624
          · rw [if_pos (.inr h4)]
            go_enter Try.func25, Try.ntmps25
            go_wp2
            go_ret
            exact ⟨rfl, box30 _ _⟩
          · rw [if_neg (by omega)]
            go_enter Try.func25, Try.ntmps25
            go_wp2
            go_ret
            exact ⟨rfl, box30 _ _⟩

/-! ### Left and Expired -/
set_option maxRecDepth 100000 in
set_option maxHeartbeats 1000000 in
theorem rleft_any (a : Ac) (K : Nat) (A : Option Addr) (n cap : Nat) (l : List Cr) (per : Int) (w : World) (h : RC w A n l) (hr : RL a l) (ok : a.Ok K) : Calls Try.prog 21 #[rv a A n cap, .int .i64 per] w fun e w' => e = .returned (.int .i64 (a.left per)) ∧ Same w w' := by
  have hn := h.2.1
  have hl := h.1
  have hs0 := box30 w (rcs a A n cap)
  have b0 := Blk.new w 30 (rcs a A n cap)
  have p1 := ok.p1
  have p2 := ok.p2
  have HEQ := Lib.hid (hr.left ok per)
  have HC := Lib.hid (h.same hs0)
  have HBD := Lib.hid (fun k => hr.bd ok (wl per a.P) k)
  have HON := Lib.hid (fun k e => hr.one ok (k := k) (e := e))
  have HLO := Lib.hid (fun k e (he : l[k]? = some e) => And.intro (hr.lo e (List.mem_of_getElem? he)) ok.t2)
  obtain ⟨r, hre⟩ : ∃ r, a.left per = r := ⟨_, rfl⟩
  rw [hre] at HEQ ⊢
  have HS0 := Lib.hid hs0
  unfold rv
  unfold rcs at b0 HC HS0 ⊢
  obtain ⟨F, P, T, cr, cl, f⟩ := a
  simp only at b0 HC HS0 HEQ HBD HLO p1 p2 ⊢
  obtain ⟨W0, hW0⟩ : ∃ W0, w.alloc (.cells #[.int .i64 F, .int .i64 P, .int .i64 T, .int .i64 cr, .int .i64 cl, .slice A n cap] 30) = W0 := ⟨_, rfl⟩
  rw [hW0] at b0 HC HS0
  have B0 := Lib.hid b0
  have HW0 := Lib.hid hW0
  clear h hr ok hs0 b0 hre hW0
  go_enter Try.func21, Try.ntmps21
  go_wp2
  rw [HW0.out]
  clear HW0
  go_loopw [5, 6] (fun t i wr => ∃ k : Nat, k ≤ n ∧ i = .int .i64 k ∧ t = .int .i64 (sumW (wl per P) (l.take k)) ∧ Same W0 wr) (fun _ i _ => n - (intOf i).toNat)
  case atStart => exact ⟨0, by omega, rfl, rfl, Same.refl _⟩
  case round =>
    obtain ⟨k, hk, rfl, rfl, hs⟩ := hrel
    have b1 := B0.out.fr hs (fun x => x)
    have d1 := b1.cell 1
    have d5 := b1.cell 5
    simp at d1 d5
    have hzz := b1.lt
    clear b1
    by_cases hlt : k < n
    · obtain ⟨e, he⟩ : ∃ e, l[k]? = some e := ⟨l[k]'(by omega), List.getElem?_eq_getElem _⟩
      obtain ⟨g, o, hA, c0, c1, _⟩ := (HC.out.same hs).2.2 k e he
      subst hA
      obtain ⟨q, v⟩ := e
      simp only at c0 c1
      obtain ⟨v1, v2⟩ := HON.out k _ he
      obtain ⟨⟨q1, q2⟩, q3⟩ := HLO.out k _ he
      simp only at v1 v2 q1 q2
      have hbd := HBD.out k
      have HSN := Lib.hid (sumW_snoc (p := wl per P) he)
      simp only at HSN
      generalize sumW (wl per P) (l.take k) = s at hbd HSN
      obtain ⟨s1, s2⟩ := hbd
      have i1 : (0 : Int) ≤ (k : Int) := by omega
      have i2 : (k : Int) < (n : Int) := by omega
      have HS := Lib.hid hs
      clear he hs
      by_cases h0 : 0 ≤ per
      · by_cases h1 : per ≤ 1000000
        · by_cases h2 : q ≤ per
          · by_cases h3 : per < q + P
            · have HE : Hid (sumW (wl per P) (l.take (k + 1)) = s + v) := by unfold Hid; rw [HSN.out, if_pos (by simp [wl, h0, h1, h2, h3])]
              clear HSN
              go_wp2
              go_roundw
              case rel => exact ⟨k + 1, by omega, by go_num, by rw [HE.out], Fr.alloc HS.out _⟩
              case measure => simp [intOf]; omega
            · have HE : Hid (sumW (wl per P) (l.take (k + 1)) = s) := by unfold Hid; rw [HSN.out, if_neg (by simp [wl, h3])]; omega
              clear HSN
              go_wp2
              go_roundw
              case rel => exact ⟨k + 1, by omega, by go_num, by rw [HE.out], Fr.alloc HS.out _⟩
              case measure => simp [intOf]; omega
          · have HE : Hid (sumW (wl per P) (l.take (k + 1)) = s) := by unfold Hid; rw [HSN.out, if_neg (by simp [wl, h2])]; omega
            clear HSN
            go_wp2
            go_roundw
            case rel => exact ⟨k + 1, by omega, by go_num, by rw [HE.out], Fr.alloc HS.out _⟩
            case measure => simp [intOf]; omega
        · have HE : Hid (sumW (wl per P) (l.take (k + 1)) = s) := by unfold Hid; rw [HSN.out, if_neg (by simp [wl, h1])]; omega
          clear HSN
          go_wp2
          go_roundw
          case rel => exact ⟨k + 1, by omega, by go_num, by rw [HE.out], Fr.alloc HS.out _⟩
          case measure => simp [intOf]; omega
      · have HE : Hid (sumW (wl per P) (l.take (k + 1)) = s) := by unfold Hid; rw [HSN.out, if_neg (by simp [wl, h0])]; omega
        clear HSN
        go_wp2
        go_roundw
        case rel => exact ⟨k + 1, by omega, by go_num, by rw [HE.out], Fr.alloc HS.out _⟩
        case measure => simp [intOf]; omega
    · have HE : Hid (sumW (wl per P) (l.take k) = r) := by unfold Hid; rw [List.take_of_length_le (by omega)]; exact HEQ.out
      have HS := Lib.hid hs
      clear hs
      go_wp2
      go_ret
      exact ⟨ret_int HE.out, Fr.trans HS0.out HS.out⟩

set_option maxRecDepth 100000 in
set_option maxHeartbeats 1000000 in
theorem rexpired_any (a : Ac) (K : Nat) (A : Option Addr) (n cap : Nat) (l : List Cr) (per : Int) (w : World) (h : RC w A n l) (hr : RL a l) (ok : a.Ok K) : Calls Try.prog 22 #[rv a A n cap, .int .i64 per] w fun e w' => e = .returned (.int .i64 (a.expired per)) ∧ Same w w' := by
  have hn := h.2.1
  have hl := h.1
  have hs0 := box30 w (rcs a A n cap)
  have b0 := Blk.new w 30 (rcs a A n cap)
  have p1 := ok.p1
  have p2 := ok.p2
  have HEQ := Lib.hid (hr.expired per)
  have HC := Lib.hid (h.same hs0)
  have HBD := Lib.hid (fun k => hr.bd ok (we per a.P) k)
  have HON := Lib.hid (fun k e => hr.one ok (k := k) (e := e))
  have HLO := Lib.hid (fun k e (he : l[k]? = some e) => And.intro (hr.lo e (List.mem_of_getElem? he)) ok.t2)
  obtain ⟨r, hre⟩ : ∃ r, a.expired per = r := ⟨_, rfl⟩
  rw [hre] at HEQ ⊢
  have HS0 := Lib.hid hs0
  unfold rv
  unfold rcs at b0 HC HS0 ⊢
  obtain ⟨F, P, T, cr, cl, f⟩ := a
  simp only at b0 HC HS0 HEQ HBD HLO p1 p2 ⊢
  obtain ⟨W0, hW0⟩ : ∃ W0, w.alloc (.cells #[.int .i64 F, .int .i64 P, .int .i64 T, .int .i64 cr, .int .i64 cl, .slice A n cap] 30) = W0 := ⟨_, rfl⟩
  rw [hW0] at b0 HC HS0
  have B0 := Lib.hid b0
  have HW0 := Lib.hid hW0
  clear h hr ok hs0 b0 hre hW0
  go_enter Try.func22, Try.ntmps22
  go_wp2
  rw [HW0.out]
  clear HW0
  go_loopw [5, 6] (fun t i wr => ∃ k : Nat, k ≤ n ∧ i = .int .i64 k ∧ t = .int .i64 (sumW (we per P) (l.take k)) ∧ Same W0 wr) (fun _ i _ => n - (intOf i).toNat)
  case atStart => exact ⟨0, by omega, rfl, rfl, Same.refl _⟩
  case round =>
    obtain ⟨k, hk, rfl, rfl, hs⟩ := hrel
    have b1 := B0.out.fr hs (fun x => x)
    have d1 := b1.cell 1
    have d5 := b1.cell 5
    simp at d1 d5
    have hzz := b1.lt
    clear b1
    by_cases hlt : k < n
    · obtain ⟨e, he⟩ : ∃ e, l[k]? = some e := ⟨l[k]'(by omega), List.getElem?_eq_getElem _⟩
      obtain ⟨g, o, hA, c0, c1, _⟩ := (HC.out.same hs).2.2 k e he
      subst hA
      obtain ⟨q, v⟩ := e
      simp only at c0 c1
      obtain ⟨v1, v2⟩ := HON.out k _ he
      obtain ⟨⟨q1, q2⟩, q3⟩ := HLO.out k _ he
      simp only at v1 v2 q1 q2
      have hbd := HBD.out k
      have HSN := Lib.hid (sumW_snoc (p := we per P) he)
      simp only at HSN
      generalize sumW (we per P) (l.take k) = s at hbd HSN
      obtain ⟨s1, s2⟩ := hbd
      have i1 : (0 : Int) ≤ (k : Int) := by omega
      have i2 : (k : Int) < (n : Int) := by omega
      have HS := Lib.hid hs
      clear he hs
      by_cases h0 : 0 ≤ per
      · by_cases h1 : per ≤ 1000000
        · by_cases h2 : q + P ≤ per
          · have HE : Hid (sumW (we per P) (l.take (k + 1)) = s + v) := by unfold Hid; rw [HSN.out, if_pos (by simp [we, h0, h1, h2])]
            clear HSN
            go_wp2
            go_roundw
            case rel => exact ⟨k + 1, by omega, by go_num, by rw [HE.out], Fr.alloc HS.out _⟩
            case measure => simp [intOf]; omega
          · have HE : Hid (sumW (we per P) (l.take (k + 1)) = s) := by unfold Hid; rw [HSN.out, if_neg (by simp [we, h2])]; omega
            clear HSN
            go_wp2
            go_roundw
            case rel => exact ⟨k + 1, by omega, by go_num, by rw [HE.out], Fr.alloc HS.out _⟩
            case measure => simp [intOf]; omega
        · have HE : Hid (sumW (we per P) (l.take (k + 1)) = s) := by unfold Hid; rw [HSN.out, if_neg (by simp [we, h1])]; omega
          clear HSN
          go_wp2
          go_roundw
          case rel => exact ⟨k + 1, by omega, by go_num, by rw [HE.out], Fr.alloc HS.out _⟩
          case measure => simp [intOf]; omega
      · have HE : Hid (sumW (we per P) (l.take (k + 1)) = s) := by unfold Hid; rw [HSN.out, if_neg (by simp [we, h0])]; omega
        clear HSN
        go_wp2
        go_roundw
        case rel => exact ⟨k + 1, by omega, by go_num, by rw [HE.out], Fr.alloc HS.out _⟩
        case measure => simp [intOf]; omega
    · have HE : Hid (sumW (we per P) (l.take k) = r) := by unfold Hid; rw [List.take_of_length_le (by omega)]; exact HEQ.out
      have HS := Lib.hid hs
      clear hs
      go_wp2
      go_ret
      exact ⟨ret_int HE.out, Fr.trans HS0.out HS.out⟩

end Go.Proofs.Ytpapgldjmglaiaa
