/-
  The plain model of a stock: a list of items and their orders. No program in sight.
-/
import Derived.Test.YtholaaojcpifnaaBase
namespace Go.Proofs.Ytholaaojcpifnaa

abbrev Bs := ByteArray
abbrev Stk := List (Bs × Bs)
def nul : Bs := ⟨#[]⟩

/-- The items that are reserved for an order; the free ones, if it is empty. -/
def withs (s : Stk) (o : Bs) : List Bs := (s.filter fun e => decide (e.2 = o)).map (·.1)
def held (s : Stk) (o : Bs) : List Bs := if o = nul then [] else withs s o
def sAdd (s : Stk) (x : Bs) : Stk × Int :=
  if x = nul then (s, 6) else if (getG s x).isSome then (s, 7) else if 512 ≤ s.length then (s, 12) else (s ++ [(x, nul)], 0)
def setO (s : Stk) (x o : Bs) : Stk := s.map fun e => if e.1 = x then (e.1, o) else e
def sReserve (s : Stk) (x o : Bs) : Stk × Int :=
  if o = nul then (s, 6) else match getG s x with
    | none => (s, 8)
    | some h => if h ≠ nul then (s, 14) else (setO s x o, 0)
def sRelease (s : Stk) (o : Bs) : Stk := s.map fun e => if o ≠ nul ∧ e.2 = o then (e.1, nul) else e
def sRemove (s : Stk) (o : Bs) : Stk := s.filter fun e => decide (o = nul ∨ e.2 ≠ o)

structure SOk (s : Stk) : Prop where
  nd : (s.map (·.1)).Nodup
  ne : ∀ e ∈ s, e.1 ≠ nul
  le : s.length ≤ 512

theorem getG_mem {V : Type} : ∀ (l : List (Bs × V)) (p : Bs) (v : V), (l.map (·.1)).Nodup → (p, v) ∈ l → getG l p = some v
  | [], _, _, _, h => by cases h
  | x :: l, p, v, hn, h => by
    simp only [List.map_cons, List.nodup_cons] at hn
    unfold getG
    rcases List.mem_cons.1 h with e | h
    · rw [← e]; simp
    · rw [if_neg (fun e => hn.1 (by rw [e]; exact List.mem_map.2 ⟨_, h, rfl⟩))]
      exact getG_mem l p v hn.2 h
theorem mem_of_getG {V : Type} : ∀ (l : List (Bs × V)) (p : Bs) (v : V), getG l p = some v → (p, v) ∈ l
  | [], _, _, h => by simp [getG] at h
  | x :: l, p, v, h => by
    unfold getG at h
    split at h
    · rename_i e
      simp only [Option.some.injEq] at h
      subst e
      subst h
      exact List.mem_cons_self
    · exact List.mem_cons_of_mem _ (mem_of_getG l p v h)
theorem setO_fst (s : Stk) (x o : Bs) : (setO s x o).map (·.1) = s.map (·.1) := by
  unfold setO
  rw [List.map_map]
  apply List.map_congr_left
  intro e _
  simp only [Function.comp]
  split <;> rfl
theorem sRelease_fst (s : Stk) (o : Bs) : (sRelease s o).map (·.1) = s.map (·.1) := by
  unfold sRelease
  rw [List.map_map]
  apply List.map_congr_left
  intro e _
  simp only [Function.comp]
  split <;> rfl
theorem getG_map (f : Bs × Bs → Bs) : ∀ (s : Stk) (q : Bs), getG (s.map fun e => (e.1, f e)) q = (getG s q).map fun o => f (q, o)
  | [], _ => rfl
  | e :: s, q => by
    simp only [List.map_cons, getG]
    by_cases h : e.1 = q
    · subst h; simp
    · simp only [h, if_false]; exact getG_map f s q
theorem setO_get (s : Stk) (x o q : Bs) : getG (setO s x o) q = if q = x then (getG s q).map (fun _ => o) else getG s q := by
  have e : setO s x o = s.map fun e => (e.1, if e.1 = x then o else e.2) := by
    unfold setO
    apply List.map_congr_left
    intro e _
    split <;> rfl
  rw [e, getG_map]
  by_cases h : q = x
  · simp [h]
  · simp only [h, if_false]
    cases getG s q <;> rfl
theorem sRelease_get (s : Stk) (o q : Bs) : getG (sRelease s o) q = (getG s q).map fun h => if o ≠ nul ∧ h = o then nul else h := by
  have e : sRelease s o = s.map fun e => (e.1, if o ≠ nul ∧ e.2 = o then nul else e.2) := by
    unfold sRelease
    apply List.map_congr_left
    intro e _
    split <;> rfl
  rw [e, getG_map]
theorem getG_filter (f : Bs × Bs → Bool) : ∀ (s : Stk) (q : Bs), (s.map (·.1)).Nodup → getG (s.filter f) q = match getG s q with | none => none | some o => if f (q, o) then some o else none
  | [], _, _ => rfl
  | e :: s, q, hn => by
    simp only [List.map_cons, List.nodup_cons] at hn
    by_cases h : e.1 = q
    · have hns : getG s q = none := (getG_none_iff s q).2 (by rw [← h]; exact hn.1)
      have ih := getG_filter f s q hn.2
      rw [hns] at ih
      simp only [List.filter_cons, getG, h, if_true]
      have he : e = (q, e.2) := by rw [← h]
      rw [← he]
      by_cases hf : f e = true
      · simp [hf, getG, h]
      · simp only [hf]; simpa using ih
    · have ih := getG_filter f s q hn.2
      simp only [List.filter_cons, getG, h, if_false]
      by_cases hf : f e = true
      · simp only [hf, if_true, getG, h, if_false]; exact ih
      · simp only [hf]; simpa using ih
theorem sRemove_ok {s : Stk} (h : SOk s) (o : Bs) : SOk (sRemove s o) :=
  ⟨by unfold sRemove; exact h.nd.sublist ((List.filter_sublist).map _), fun e he => h.ne e (List.mem_filter.1 he).1, Nat.le_trans (List.length_filter_le _ _) h.le⟩
theorem sRelease_ok {s : Stk} (h : SOk s) (o : Bs) : SOk (sRelease s o) := by
  refine ⟨by rw [sRelease_fst]; exact h.nd, fun e he => ?_, by unfold sRelease; rw [List.length_map]; exact h.le⟩
  have : e.1 ∈ s.map (·.1) := by rw [← sRelease_fst s o]; exact List.mem_map.2 ⟨e, he, rfl⟩
  obtain ⟨x, hx, hxe⟩ := List.mem_map.1 this
  rw [← hxe]
  exact h.ne x hx
theorem setO_ok {s : Stk} (h : SOk s) (x o : Bs) : SOk (setO s x o) := by
  refine ⟨by rw [setO_fst]; exact h.nd, fun e he => ?_, by unfold setO; rw [List.length_map]; exact h.le⟩
  have : e.1 ∈ s.map (·.1) := by rw [← setO_fst s x o]; exact List.mem_map.2 ⟨e, he, rfl⟩
  obtain ⟨y, hy, hye⟩ := List.mem_map.1 this
  rw [← hye]
  exact h.ne y hy
theorem sReserve_ok {s : Stk} (h : SOk s) (x o : Bs) : SOk (sReserve s x o).1 := by
  unfold sReserve
  split
  · exact h
  · split
    · exact h
    · split
      · exact h
      · exact setO_ok h x o
theorem sAdd_ok {s : Stk} (h : SOk s) (x : Bs) : SOk (sAdd s x).1 := by
  unfold sAdd
  split
  · exact h
  · split
    · exact h
    · split
      · exact h
      · rename_i h1 h2 h3
        refine ⟨?_, ?_, ?_⟩
        · rw [List.map_append, List.nodup_append]
          refine ⟨h.nd, by simp, fun a ha b hb => ?_⟩
          simp at hb
          subst hb
          intro e
          subst e
          have : getG s a = none := by simpa using h2
          exact (getG_none_iff s a).1 this ha
        · intro e he
          rcases List.mem_append.1 he with he | he
          · exact h.ne e he
          · simp at he; subst he; exact h1
        · simp; omega
theorem withs_take {s : Stk} {o : Bs} {k : Nat} {e : Bs × Bs} (h : s[k]? = some e) : withs (s.take (k + 1)) o = if e.2 = o then withs (s.take k) o ++ [e.1] else withs (s.take k) o := by
  obtain ⟨hk, he⟩ := List.getElem?_eq_some_iff.1 h
  unfold withs
  rw [List.take_succ_eq_append_getElem hk, List.filter_append, List.map_append, he]
  by_cases h2 : e.2 = o <;> simp [h2]

end Go.Proofs.Ytholaaojcpifnaa
