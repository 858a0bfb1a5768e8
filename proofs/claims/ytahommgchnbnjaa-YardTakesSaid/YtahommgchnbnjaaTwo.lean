/-
  Two yards side by side.
-/
import Derived.Test.YtahommgchnbnjaaPlay
namespace Go.Proofs.Ytahommgchnbnjaa
open Go.RowKit

/-- Two yards of the law's own that share no block. -/
structure Y2 (w W : World) (g b g' b' c p p' : Nat) (ys zs : Ys) : Prop where
  ex : ∃ ls ls', IsY W g b ls c p ∧ ls.map Bay.es = ys ∧ IsY W g' b' ls' c p' ∧ ls'.map Bay.es = zs ∧ (∀ i, Own g b ls i → w.heap.size ≤ i) ∧ (∀ i, Own g' b' ls' i → w.heap.size ≤ i) ∧ ∀ i, Own g b ls i → ¬ Own g' b' ls' i
  bel : Below w.heap.size w W
section
variable {w W W' : World} {g b g' b' c p p' : Nat} {ys zs : Ys}
theorem Y2.swap (h : Y2 w W g b g' b' c p p' ys zs) : Y2 w W g' b' g b c p' p zs ys := by
  obtain ⟨⟨ls, ls', h1, h2, h3, h4, h5, h6, h7⟩, hb⟩ := h
  exact ⟨⟨ls', ls, h3, h4, h1, h2, h6, h5, fun i hi hj => h7 i hj hi⟩, hb⟩
theorem Y2.same (h : Y2 w W g b g' b' c p p' ys zs) (hs : Same W W') : Y2 w W' g b g' b' c p p' ys zs := by
  obtain ⟨⟨ls, ls', h1, h2, h3, h4, h5⟩, hb⟩ := h
  exact ⟨⟨ls, ls', h1.same hs, h2, h3.same hs, h4, h5⟩, hb.trans (hs.below.mono hb.size)⟩
theorem Y2.of {w2 : World} (h : YB w (fun _ => False) w2 g b c p ys) (h' : YB w2 (fun _ => False) W g' b' c p' zs) : Y2 w W g b g' b' c p p' ys zs := by
  obtain ⟨ls, h1, h2, h3⟩ := h.ex
  obtain ⟨ls', k1, k2, k3⟩ := h'.ex
  have hz := h.bel.size
  refine ⟨⟨ls, ls', h1.same (Same.of h'.bel), h2, k1, k2, fun i hi => (h3 i hi).1, fun i hi => Nat.le_trans hz (k3 i hi).1, fun i hi hj => ?_⟩, h.bel.trans (h'.bel.mono hz)⟩
  have := h1.lt i hi
  have := (k3 i hj).1
  omega
theorem Y2.ok (h : Y2 w W g b g' b' c p p' ys zs) : YOk c ys ∧ YOk c zs := by
  obtain ⟨⟨ls, ls', h1, rfl, h3, rfl, _⟩, _⟩ := h
  exact ⟨h1.ok, h3.ok⟩
theorem find_y {x : Bs} (h : Y2 w W g b g' b' c p p' ys zs) : Calls Try.prog 16 #[.pointer (some ⟨g, 0, none⟩), .string x] W fun e W' => e = .returned (findV (yFind ys x)) ∧ Y2 w W' g b g' b' c p p' ys zs := by
  obtain ⟨ls, ls', h1, rfl, _⟩ := h.ex
  exact (find_any g b c p ls x W h1).mono fun e W' ⟨he, hs⟩ => ⟨he, h.same hs⟩
theorem take_z {x : Bs} (h : Y2 w W g b g' b' c p p' ys zs) : Calls Try.prog 14 #[.pointer (some ⟨g', 0, none⟩), .string x] W fun e W' =>
    e = .returned (.tuple #[.int .i64 ((yTake c zs x).2.1 : Nat), .int .i64 (yTake c zs x).2.2]) ∧ Y2 w W' g b g' b' c p p' ys (yTake c zs x).1 := by
  obtain ⟨⟨ls, ls', h1, h2, h3, rfl, h5, h6, h7⟩, hb⟩ := h
  refine (take_any g' b' c p' ls' x W h3).mono ?_
  rintro e W' ⟨he, ls2, hY, he2, hu⟩
  have hz := hb.size
  refine ⟨he, ⟨ls, ls2, h1.fr hu.fr h7, h2, hY, he2, h5, fun i hi => ?_, fun i hi hj => ?_⟩, hb.trans (hu.fr.below hz (fun i _ hi => h6 i hi))⟩
  · rcases hu.own i hi with e | e
    · exact h6 i e
    · omega
  · rcases hu.own i hj with e | e
    · exact h7 i hi e
    · have := h1.lt i hi
      omega
theorem len_y {n : Nat} (h : Y2 w W g b g' b' c p p' ys zs) (hn : totK ys ys.length = n) : Calls Try.prog 15 #[.pointer (some ⟨g, 0, none⟩)] W fun e W' => e = .returned (.int .i64 (n : Nat)) ∧ Y2 w W' g b g' b' c p p' ys zs := by
  obtain ⟨ls, ls', h1, rfl, _⟩ := h.ex
  subst hn
  rw [List.length_map]
  exact (len_any g b c p ls W h1).mono fun e W' ⟨he, hs⟩ => ⟨he, h.same hs⟩
theorem len_z {n : Nat} (h : Y2 w W g b g' b' c p p' ys zs) (hn : totK zs zs.length = n) : Calls Try.prog 15 #[.pointer (some ⟨g', 0, none⟩)] W fun e W' => e = .returned (.int .i64 (n : Nat)) ∧ Y2 w W' g b g' b' c p p' ys zs :=
  (len_y h.swap hn).mono fun _ _ ⟨he, hs⟩ => ⟨he, hs.swap⟩
theorem bay_y {k N : Nat} {es : List Ent} {s : List Bs} (h : Y2 w W g b g' b' c p p' ys zs) (hk : ys[k]? = some es) (hN : es.length = N) (hs : es.map Prod.fst = s) : Calls Try.prog 17 #[.pointer (some ⟨g, 0, none⟩), .int .i64 k] W fun e W' =>
    ∃ A cap, e = .returned (.slice A N cap) ∧ RS W' A N s ∧ Same W W' ∧ Y2 w W' g b g' b' c p p' ys zs := by
  have hkl := (List.getElem?_eq_some_iff.1 hk).1
  have h16 := h.ok.1.n2
  obtain ⟨ls, ls', h1, rfl, _⟩ := h.ex
  have := bay_any g b c p ls (k : Int) W h1 (by omega)
  rw [yBay_in hk, hs] at this
  have hl : s.length = N := by rw [← hs, ← hN]; simp
  unfold BayE at this
  rw [hl] at this
  exact this.mono fun e W' ⟨A, cap, he, hr, hs, _⟩ => ⟨A, cap, he, hr, hs, h.same hs⟩
theorem bay_z {k N : Nat} {es : List Ent} {s : List Bs} (h : Y2 w W g b g' b' c p p' ys zs) (hk : zs[k]? = some es) (hN : es.length = N) (hs : es.map Prod.fst = s) : Calls Try.prog 17 #[.pointer (some ⟨g', 0, none⟩), .int .i64 k] W fun e W' =>
    ∃ A cap, e = .returned (.slice A N cap) ∧ RS W' A N s ∧ Same W W' ∧ Y2 w W' g b g' b' c p p' ys zs :=
  (bay_y h.swap hk hN hs).mono fun _ _ ⟨A, cap, he, hr, hs, h2⟩ => ⟨A, cap, he, hr, hs, h2.swap⟩
end

end Go.Proofs.Ytahommgchnbnjaa
