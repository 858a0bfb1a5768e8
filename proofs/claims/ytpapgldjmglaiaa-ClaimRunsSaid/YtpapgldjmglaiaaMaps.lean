/-
  Maps from int to int: stores and deletions.
-/
import Derived.Test.YtpapgldjmglaiaaBase
namespace Go.Proofs.Ytpapgldjmglaiaa
open Go.RowKit

theorem map_modify_set (p v : Int) (es : List MapEntry) (l : List (Int × Int)) (j : Nat) (h : es.map (fun e => (e.key, e.val)) = l.map (fun x => (Value.int .i64 x.1, Value.int .i64 x.2))) :
    (es.modify j fun e => { e with key := .int .i64 p, val := .int .i64 v }).map (fun e => (e.key, e.val)) = (l.set j (p, v)).map (fun x => (Value.int .i64 x.1, Value.int .i64 x.2)) := by
  apply List.ext_getElem?
  intro i
  have hi : (es.map (fun e => (e.key, e.val)))[i]? = (l.map (fun x => (Value.int .i64 x.1, Value.int .i64 x.2)))[i]? := by rw [h]
  simp only [List.getElem?_map, List.getElem?_modify, List.getElem?_set] at hi ⊢
  by_cases hj : j = i
  · subst hj
    have hlen : es.length = l.length := by simpa using congrArg List.length h
    by_cases hl : j < l.length
    · rw [List.getElem?_eq_getElem (by omega)]
      simp [hl]
    · rw [List.getElem?_eq_none (by omega)]
      simp [hl]
  · simp only [hj, if_false]
    rw [← hi]
    cases es[i]? <;> simp
theorem erase_map {α β : Type} (f : α → β) : ∀ (l : List α) (j : Nat), (l.eraseIdx j).map f = (l.map f).eraseIdx j
  | [], _ => rfl
  | _ :: _, 0 => rfl
  | x :: l, j + 1 => by simp [erase_map f l j]
theorem born_modify (p v : Value) (es : List MapEntry) (j : Nat) : (es.modify j fun e => { e with key := p, val := v }).map (·.born) = es.map (·.born) := by
  apply List.ext_getElem?
  intro i
  simp only [List.getElem?_map, List.getElem?_modify]
  cases es[i]? with
  | none => rfl
  | some e => by_cases hj : j = i <;> simp [hj]
theorem fst_set (l : List (Int × Int)) (j : Nat) (p u v : Int) (h : l[j]? = some (p, v)) : (l.set j (p, u)).map (·.1) = l.map (·.1) := by
  apply List.ext_getElem?
  intro i
  simp only [List.getElem?_map, List.getElem?_set]
  by_cases hj : j = i
  · subst hj
    obtain ⟨hl, he⟩ := List.getElem?_eq_some_iff.1 h
    simp [hl, he]
  · simp [hj]

section
variable {P : Program} {w w' : World} {t k e : TypeId} {r : Nat} {l : List (Int × Int)} {S : Nat → Prop}
theorem fr_set {r : Nat} {w : World} (o : Obj) : Fr (fun i => i = r) w { w with heap := w.heap.setIfInBounds r o } :=
  ⟨rfl, rfl, rfl, by simp, fun i hi hn => by simp [Ne.symm hn]⟩
theorem MI.update (h : MI w r l) (ht : P.underlying t = some (.map k e)) (hk : P.underlying k = some (.int .i64)) (p v : Int) :
    ∃ w' l', (Instr.mapUpdate t (.map (some r)) (.int .i64 p) (.int .i64 v)).run P w = .ok () w' ∧ MI w' r l' ∧ (∀ q, get l' q = if q = p then v else get l q) ∧ (∀ q ∈ l'.map (·.1), q = p ∨ q ∈ l.map (·.1)) ∧ Fr (fun i => i = r) w w' := by
  have hlt := h.lt
  obtain ⟨es, c, hm, hl, hn, hbn, hbc⟩ := h
  have hf := findNow_int p es.toList l 0 hl
  unfold Mp at hm
  cases hg : findL l p 0 with
  | none =>
    rw [hg] at hf
    have hnm := not_mem_of_none l p 0 hg
    refine ⟨{ w with heap := w.heap.setIfInBounds r (.map (es.push ⟨.int .i64 p, .int .i64 v, c⟩) (c + 1)) }, l ++ [(p, v)], ?_, ⟨es.push ⟨.int .i64 p, .int .i64 v, c⟩, c + 1, by simp [Mp, hlt], ?_, ?_, ?_, ?_⟩, fun q => get_append l p v q hnm, ?_, fr_set _⟩
    · simp [Instr.mapUpdate, run_underlying ht, getObj, setObj, Sem.run, hm, run_checkKey hk rfl, Instr.findKey, run_underlying hk, hf]
    · simp [hl]
    · rw [List.map_append, List.nodup_append]
      exact ⟨hn, by simp, fun a ha b hb => by simp at hb; subst hb; intro e; subst e; exact hnm ha⟩
    · rw [Array.toList_push, List.map_append, List.nodup_append]
      refine ⟨hbn, by simp, fun a ha b hb => ?_⟩
      simp at hb
      subst hb
      obtain ⟨x, hx, rfl⟩ := List.mem_map.1 ha
      have := hbc x hx
      omega
    · intro x hx
      rw [Array.toList_push, List.mem_append] at hx
      rcases hx with hx | hx
      · have := hbc x hx
        omega
      · simp at hx
        subst hx
        simp
    · intro q hq
      rw [List.map_append, List.mem_append] at hq
      rcases hq with hq | hq
      · exact .inr hq
      · simp at hq; exact .inl hq
  | some x =>
    obtain ⟨j, u⟩ := x
    rw [hg] at hf
    obtain ⟨_, hpl⟩ := findL_place l p 0 j u hg
    simp only [Nat.sub_zero] at hpl
    have hek : ∃ e0, es[j]? = some e0 ∧ e0.key = .int .i64 p := by
      have h1 : (es.toList.map (fun e => (e.key, e.val)))[j]? = some (.int .i64 p, .int .i64 u) := by rw [hl]; simp [hpl]
      simp only [List.getElem?_map, Option.map_eq_some_iff] at h1
      obtain ⟨e0, h2, h3⟩ := h1
      exact ⟨e0, by simpa using h2, (Prod.mk.inj h3).1⟩
    obtain ⟨e0, he0, hk0⟩ := hek
    have hst : (Instr.keyThatStays (.int .i64 p) (.int .i64 p)).run P w = .ok (.int .i64 p) w := by
      simp [Instr.keyThatStays, Instr.sameBits]
    refine ⟨{ w with heap := w.heap.setIfInBounds r (.map (es.modify j fun e => { e with key := .int .i64 p, val := .int .i64 v }) c) }, l.set j (p, v), ?_, ⟨es.modify j fun e => { e with key := .int .i64 p, val := .int .i64 v }, c, by simp [Mp, hlt], ?_, ?_, ?_, ?_⟩, fun q => ?_, ?_, fr_set _⟩
    · simp [Instr.mapUpdate, run_underlying ht, getObj, setObj, Sem.run, hm, run_checkKey hk rfl, Instr.findKey, run_underlying hk, hf, he0, hk0, hst]
    · rw [Array.toList_modify]; exact map_modify_set p v es.toList l j hl
    · rw [fst_set l j p v u hpl]; exact hn
    · rw [Array.toList_modify, born_modify]; exact hbn
    · intro x hx
      have : x.born ∈ es.toList.map (·.born) := by
        rw [← born_modify (.int .i64 p) (.int .i64 v) es.toList j, ← Array.toList_modify]
        exact List.mem_map.2 ⟨x, hx, rfl⟩
      obtain ⟨y, hy, hye⟩ := List.mem_map.1 this
      have := hbc y hy
      omega
    · have := get_set l p 0 j u v q hg
      simpa using this
    · intro q hq
      rw [fst_set l j p v u hpl] at hq
      exact .inr hq

theorem MI.delete (h : MI w r l) (ht : P.underlying t = some (.map k e)) (hk : P.underlying k = some (.int .i64)) (p : Int) (a1 : TypeId) (ty : TypeId) :
    ∃ w' l', (Builtin.delete_ #[t, a1] ty #[.map (some r), .int .i64 p]).run P w = .ok (.tuple #[]) w' ∧ MI w' r l' ∧ (∀ q, get l' q = if q = p then 0 else get l q) ∧ (∀ q ∈ l'.map (·.1), q ∈ l.map (·.1)) ∧ Fr (fun i => i = r) w w' := by
  have hlt := h.lt
  obtain ⟨es, c, hm, hl, hn, hbn, hbc⟩ := h
  have hf := findNow_int p es.toList l 0 hl
  unfold Mp at hm
  cases hg : findL l p 0 with
  | none =>
    rw [hg] at hf
    refine ⟨{ w with heap := w.heap.setIfInBounds r (.map es c) }, l, ?_, ⟨es, c, by simp [Mp, hlt], hl, hn, hbn, hbc⟩, fun q => ?_, fun q hq => hq, fr_set _⟩
    · simp [Builtin.delete_, run_underlying ht, getObj, setObj, Sem.run, hm, run_checkKey hk rfl, Instr.findKey, run_underlying hk, hf]
    · split
      · subst q; exact get_of_none l p 0 hg
      · rfl
  | some x =>
    obtain ⟨j, u⟩ := x
    rw [hg] at hf
    obtain ⟨_, hpl⟩ := findL_place l p 0 j u hg
    simp only [Nat.sub_zero] at hpl
    refine ⟨{ w with heap := w.heap.setIfInBounds r (.map (es.eraseIdxIfInBounds j) c) }, l.eraseIdx j, ?_, ⟨es.eraseIdxIfInBounds j, c, by simp [Mp, hlt], ?_, ?_, ?_, ?_⟩, fun q => ?_, ?_, fr_set _⟩
    · simp [Builtin.delete_, run_underlying ht, getObj, setObj, Sem.run, hm, run_checkKey hk rfl, Instr.findKey, run_underlying hk, hf]
    · rw [Array.toList_eraseIdxIfInBounds, erase_map, hl, erase_map]
    · rw [erase_map]; exact hn.sublist (List.eraseIdx_sublist _ _)
    · rw [Array.toList_eraseIdxIfInBounds, erase_map]; exact hbn.sublist (List.eraseIdx_sublist _ _)
    · intro x hx
      rw [Array.toList_eraseIdxIfInBounds] at hx
      exact hbc x ((List.eraseIdx_sublist _ _).subset hx)
    · have := get_erase l p 0 j u q hn hg
      simpa using this
    · intro q hq
      rw [erase_map] at hq
      exact (List.eraseIdx_sublist _ _).subset hq

theorem wpList_mapUpdate_MI {ops : Array Oper} {rest : List Oper} {o : Oper} {a : Act} {Q : Exit → Act → World → Prop}
    (hg : o.guard = none) (m x y : Operand) (hop : o.op = Op.mapUpdate t m x y) (ht : P.underlying t = some (.map k e)) (hk : P.underlying k = some (.int .i64)) (p v : Int)
    (he : a.eval m = .map (some r)) (hx : a.eval x = .int .i64 p) (hy : a.eval y = .int .i64 v) (hm : MI w r l)
    (hK : ∀ w' l', MI w' r l' → (∀ q, get l' q = if q = p then v else get l q) → (∀ q ∈ l'.map (·.1), q = p ∨ q ∈ l.map (·.1)) → Fr (fun i => i = r) w w' → wpList P ops Q rest (a.put o.dst undef) w') : wpList P ops Q (o :: rest) a w := by
  refine wpList_plain hg fun K hK' => ?_
  obtain ⟨w', l', hrun, r1, r2, r3, r4⟩ := hm.update ht hk p v
  unfold Oper.wp
  simp [execOp, hop, he, hx, hy, hrun, Result.andThen]
  exact hK' _ _ (hK w' l' r1 r2 r3 r4)

theorem wpList_delete_MI {ops : Array Oper} {rest : List Oper} {o : Oper} {a : Act} {Q : Exit → Act → World → Prop}
    (hg : o.guard = none) (m x : Operand) (a1 : TypeId) (hop : o.op = Op.call { callee := .builtin .delete, args := #[m, x], argTypes := #[t, a1] }) (ht : P.underlying t = some (.map k e)) (hk : P.underlying k = some (.int .i64)) (p : Int)
    (he : a.eval m = .map (some r)) (hx : a.eval x = .int .i64 p) (hm : MI w r l)
    (hK : ∀ w' l', MI w' r l' → (∀ q, get l' q = if q = p then 0 else get l q) → (∀ q ∈ l'.map (·.1), q ∈ l.map (·.1)) → Fr (fun i => i = r) w w' → wpList P ops Q rest (a.put o.dst (.tuple #[])) w') : wpList P ops Q (o :: rest) a w := by
  refine wpList_plain hg fun K hK' => ?_
  obtain ⟨w', l', hrun, r1, r2, r3, r4⟩ := hm.delete ht hk p a1 o.type
  unfold Oper.wp
  simp [execOp, hop, resolve, invoke, builtin, he, hx, hrun, Result.andThen]
  exact hK' _ _ (hK w' l' r1 r2 r3 r4)
end

end Go.Proofs.Ytpapgldjmglaiaa
