/-
  More of the plain law of a stock: what a reservation does to the lists.
-/
import Derived.Test.YtholaaojcpifnaaWalkd
namespace Go.Proofs.Ytholaaojcpifnaa

theorem setO_not_mem (s : Stk) (x o : Bs) (h : x ∉ s.map (·.1)) : setO s x o = s := by
  unfold setO
  conv => rhs; rw [← List.map_id s]
  apply List.map_congr_left
  intro e he
  have : e.1 ≠ x := fun e' => h (by rw [← e']; exact List.mem_map.2 ⟨e, he, rfl⟩)
  simp [this]
theorem setO_cons (e : Bs × Bs) (s : Stk) (x o : Bs) : setO (e :: s) x o = (if e.1 = x then (e.1, o) else e) :: setO s x o := rfl
/-- A reservation of a free item: one more with the order, one free item less; another order's are as they were. -/
theorem setO_count {s : Stk} (hn : (s.map (·.1)).Nodup) {x o : Bs} (ho : o ≠ nul) (hx : getG s x = some nul) :
    (withs (setO s x o) o).length = (withs s o).length + 1 ∧ (withs (setO s x o) nul).length + 1 = (withs s nul).length ∧ ∀ q, q ≠ o → q ≠ nul → withs (setO s x o) q = withs s q := by
  induction s with
  | nil => simp [getG] at hx
  | cons e s ih =>
    simp only [List.map_cons, List.nodup_cons] at hn
    unfold getG at hx
    rw [setO_cons]
    by_cases he : e.1 = x
    · rw [if_pos he] at hx ⊢
      simp only [Option.some.injEq] at hx
      rw [setO_not_mem s x o (by rw [← he]; exact hn.1)]
      have h1 : ¬ e.2 = o := by rw [hx]; exact fun e' => ho e'.symm
      refine ⟨?_, ?_, fun q hq1 hq2 => ?_⟩
      · simp [withs, h1]
      · simp [withs, hx, ho]
      · simp [withs, hx, Ne.symm hq1, Ne.symm hq2]
    · rw [if_neg he] at hx ⊢
      obtain ⟨i1, i2, i3⟩ := ih hn.2 hx
      refine ⟨?_, ?_, fun q hq1 hq2 => ?_⟩
      · unfold withs at i1 ⊢
        simp only [List.filter_cons]
        by_cases h1 : e.2 = o
        · simp only [h1, decide_true, if_true, List.map_cons, List.length_cons]; omega
        · simp only [h1, decide_false]; simpa using i1
      · unfold withs at i2 ⊢
        simp only [List.filter_cons]
        by_cases h1 : e.2 = nul
        · simp only [h1, decide_true, if_true, List.map_cons, List.length_cons]; omega
        · simp only [h1, decide_false]; simpa using i2
      · have := i3 q hq1 hq2
        unfold withs at this ⊢
        simp only [List.filter_cons]
        by_cases h1 : e.2 = q
        · simp only [h1, decide_true, if_true, List.map_cons, this]
        · simp only [h1, decide_false]; simpa using this
theorem release_setO {s : Stk} (hn : (s.map (·.1)).Nodup) {x o : Bs} (ho : o ≠ nul) (hx : getG s x = some nul) : sRelease (setO s x o) o = sRelease s o := by
  unfold sRelease setO
  rw [List.map_map]
  apply List.map_congr_left
  intro e he
  simp only [Function.comp]
  by_cases h1 : e.1 = x
  · have h2 := getG_mem s e.1 e.2 hn he
    rw [h1, hx] at h2
    simp only [Option.some.injEq] at h2
    have h3 : ¬ e.2 = o := by rw [← h2]; exact fun e' => ho e'.symm
    rw [if_pos h1]
    simp [ho, h3, h2]
  · rw [if_neg h1]
theorem release_nul (s : Stk) : sRelease s nul = s := by
  unfold sRelease
  conv => rhs; rw [← List.map_id s]
  apply List.map_congr_left
  intro e _
  simp
theorem remove_nul (s : Stk) : sRemove s nul = s := by
  unfold sRemove
  simp
theorem held_nul (s : Stk) : held s nul = [] := by simp [held]
theorem held_release (s : Stk) {o : Bs} (ho : o ≠ nul) : withs (sRelease s o) o = [] := by
  unfold withs sRelease
  rw [List.map_eq_nil_iff, List.filter_eq_nil_iff]
  intro e he
  obtain ⟨x, hx, rfl⟩ := List.mem_map.1 he
  split
  · simp [Ne.symm ho]
  · rename_i h
    simp only [decide_eq_true_eq]
    exact fun e' => h ⟨ho, e'⟩
theorem release_idem (s : Stk) {o : Bs} (ho : o ≠ nul) : sRelease (sRelease s o) o = sRelease s o := by
  unfold sRelease
  rw [List.map_map]
  apply List.map_congr_left
  intro e _
  simp only [Function.comp]
  split
  · simp [Ne.symm ho]
  · rfl
theorem withs_nodup {s : Stk} (h : SOk s) (o : Bs) : (withs s o).Nodup := by
  unfold withs
  exact h.nd.sublist ((List.filter_sublist).map _)
theorem withs_get {s : Stk} (h : SOk s) {o x : Bs} (hx : x ∈ withs s o) : getG s x = some o := by
  unfold withs at hx
  obtain ⟨e, he, rfl⟩ := List.mem_map.1 hx
  obtain ⟨h1, h2⟩ := List.mem_filter.1 he
  have h3 : e.2 = o := by simpa using h2
  exact getG_mem s e.1 o h.nd (by rw [← h3]; exact h1)
theorem held_ne (s : Stk) {o : Bs} (ho : o ≠ nul) : held s o = withs s o := by unfold held; rw [if_neg ho]

end Go.Proofs.Ytholaaojcpifnaa
