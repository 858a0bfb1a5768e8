/-
  Ranging over a map that the round only reads: laws of one operation each.
-/
import Derived.Test.YtpapgldjmglaiaaMaps
namespace Go.Proofs.Ytpapgldjmglaiaa
open Go.RowKit

/-- Block b is an iterator over the map r, behind the entries of these stamps. -/
def It (w : World) (b r c : Nat) (seen : Array Nat) : Prop := w.heap[b]? = some (.mapIter (some r) c seen c)

section
variable {P : Program} {w w' : World} {t k e : TypeId} {r b c : Nat} {es : Array MapEntry} {seen : Array Nat}
theorem It.lt (h : It w b r c seen) : b < w.heap.size := by
  rcases Nat.lt_or_ge b w.heap.size with hlt | hge
  · exact hlt
  · unfold It at h; rw [Array.getElem?_eq_none hge] at h; cases h
theorem run_range_map (ht : P.underlying t = some (.map k e)) (hm : Mp w r es c) :
    (Instr.range t (.map (some r))).run P w = .ok (.pointer (some ⟨w.heap.size, 0, none⟩)) (w.alloc (.mapIter (some r) c #[] c)) := by
  unfold Mp at hm
  simp [Instr.range, run_underlying ht, getObj, newObj, Sem.run, hm]

theorem find_born {es : List MapEntry} (hn : (es.map (·.born)).Nodup) {x : MapEntry} (hx : x ∈ es) : es.find? (·.born == x.born) = some x := by
  induction es with
  | nil => cases hx
  | cons y es ih =>
    simp only [List.map_cons, List.nodup_cons] at hn
    rcases List.mem_cons.1 hx with rfl | hx
    · simp
    · have hne : (y.born == x.born) = false := by
        simp only [beq_eq_false_iff_ne]
        intro e
        exact hn.1 (by rw [e]; exact List.mem_map.2 ⟨x, hx, rfl⟩)
      rw [List.find?_cons_of_neg (by simp [hne])]
      exact ih hn.2 hx

theorem run_next_map (isp : TypeId) (hI : It w b r c seen) (hm : Mp w r es c) (hborn : ∀ x ∈ es.toList, x.born < c) (hnd : (es.toList.map (·.born)).Nodup) :
    ((∀ x ∈ es.toList, x.born ∈ seen) ∧ (Instr.next (.pointer (some ⟨b, 0, none⟩)) false isp).run P w = .ok (.tuple #[.bool false]) w) ∨
    (∃ x w', x ∈ es.toList ∧ x.born ∉ seen ∧ (Instr.next (.pointer (some ⟨b, 0, none⟩)) false isp).run P w = .ok (.tuple #[.bool true, x.key, x.val]) w' ∧ It w' b r c (seen.push x.born) ∧ Fr (fun i => i = b) w w' ∧
      (Instr.entry (.pointer (some ⟨b, 0, none⟩))).run P w' = .ok (.tuple #[x.key, x.val]) w') := by
  have hlt := hI.lt
  have hne : b ≠ r := by
    rintro rfl
    unfold It at hI
    unfold Mp at hm
    rw [hI] at hm
    cases hm
  unfold It at hI
  unfold Mp at hm
  have hchk : (!seen.isEmpty && !es.isEmpty && es.all (fun x => decide (x.born ≥ c))) = false := by
    cases h0 : es.isEmpty with
    | true => simp
    | false =>
      simp only [Bool.and_eq_false_iff]
      right
      rw [Bool.eq_false_iff]
      intro hall
      have hsz : 0 < es.size := by
        rcases Nat.eq_zero_or_pos es.size with h | h
        · simp [Array.isEmpty, h] at h0
        · exact h
      have hx := hborn es[0] (by simp)
      have := (Array.all_eq_true.1 hall) 0 hsz
      simp at this
      omega
  obtain ⟨left, hleft⟩ : ∃ left, left = es.filter fun x => !seen.contains x.born := ⟨_, rfl⟩
  have hold : left.filter (fun x => decide (x.born < c)) = left := by
    apply Array.filter_eq_self.2
    intro x hx
    rw [hleft] at hx
    have := hborn x (by have := (Array.mem_filter.1 hx).1; simpa using this)
    simpa using this
  have hnew : left.filter (fun x => decide (x.born ≥ c)) = #[] := by
    apply Array.filter_eq_empty_iff.2
    intro x hx
    rw [hleft] at hx
    have := hborn x (by have := (Array.mem_filter.1 hx).1; simpa using this)
    simp
    omega
  by_cases h0 : left = #[]
  · refine .inl ⟨?_, ?_⟩
    · intro x hx
      have h1 := h0
      rw [hleft, Array.filter_eq_empty_iff] at h1
      have := h1 x (by simpa using hx)
      simpa using this
    · simp only [Instr.next, bind, Sem.bind, getObj, Sem.run, hI, hm]
      simp only [hchk, Bool.false_eq_true, if_false, ← hleft, hold, hnew, h0]
      simp [choose, Sem.run, Question.forced, pure, Sem.bind]
  · have hpos : 0 < left.size := by
      rcases Nat.eq_zero_or_pos left.size with h | h
      · exact absurd (Array.size_eq_zero_iff.1 h) h0
      · exact h
    have hemp : left.isEmpty = false := by simp [Array.isEmpty]; exact h0
    -- which one
    obtain ⟨j, w0, hj, hw0, hch⟩ : ∃ j w0, j < left.size ∧ Fr (fun _ => False) w w0 ∧ w0.heap = w.heap ∧ (choose (.mapNext left.size)).run P w = .ok j w0 := by
      by_cases h1 : left.size ≤ 1
      · exact ⟨0, w, hpos, Fr.refl _ _, rfl, by simp [choose, Sem.run, Question.forced, h1]⟩
      · exact ⟨_, w.drew, Nat.mod_lt (w.tape w.drawn (.mapNext left.size)) hpos, (Fr.refl _ _).drew, rfl, by simp [choose, Sem.run, Question.forced, h1, Question.cut]⟩
    obtain ⟨hheap, hch⟩ := hch
    have hcand : ((if left.isEmpty then #[none] else #[]) ++ (left ++ (#[] : Array MapEntry)).map some) = left.map some := by simp [hemp]
    have hxj : (left.map some)[j]? = some (some left[j]) := by simp [hj]
    have hmem : left[j] ∈ es.toList ∧ left[j].born ∉ seen := by
      have h1 : left[j] ∈ es.filter fun x => !seen.contains x.born := by rw [← hleft]; exact Array.getElem_mem hj
      have h2 := Array.mem_filter.1 h1
      exact ⟨by simpa using h2.1, by simpa using h2.2⟩
    generalize left[j] = x at hxj hmem
    have hsz : w0.heap.size = w.heap.size := by rw [hheap]
    have hIt : It { w0 with heap := w0.heap.setIfInBounds b (.mapIter (some r) c (seen.push x.born) c) } b r c (seen.push x.born) := by
      simp [It, hsz, hlt]
    have hMp : Mp { w0 with heap := w0.heap.setIfInBounds b (.mapIter (some r) c (seen.push x.born) c) } r es c := by
      unfold Mp
      rw [Array.getElem?_setIfInBounds]
      simp [hne, hheap, hm]
    refine .inr ⟨x, { w0 with heap := w0.heap.setIfInBounds b (.mapIter (some r) c (seen.push x.born) c) }, hmem.1, hmem.2, ?_, hIt, ?_, ?_⟩
    · have hI0 : w0.heap[b]? = some (.mapIter (some r) c seen c) := by rw [hheap]; exact hI
      simp only [Instr.next, Sem.run_bind, getObj, Sem.run, hI, hm, Result.andThen_ok]
      simp only [hchk, Bool.false_eq_true, if_false, ← hleft, hold, hnew, hcand, Array.size_map, Sem.run_bind, hch, Result.andThen_ok, hxj]
      simp [setObj, Sem.run, hI0, hm]
    · exact ⟨hw0.os, hw0.tape, hw0.output, by simp [hsz], fun i hi hn => by simp [Ne.symm hn, hheap]⟩
    · unfold It at hIt
      unfold Mp at hMp
      have hf := find_born hnd hmem.1
      have hf' : es.find? (fun y => y.born == x.born) = some x := by rw [← Array.find?_toList]; exact hf
      generalize ({ w0 with heap := w0.heap.setIfInBounds b (.mapIter (some r) c (seen.push x.born) c) } : World) = w9 at hIt hMp
      simp [Instr.entry, getObj, Sem.run, hIt, hMp, hf']
end

end Go.Proofs.Ytpapgldjmglaiaa
