/-
  What stays true of a yard, in plain words: the entries by age, their places, the moves.
-/
import Derived.Test.YtahommgchnbnjaaPlainb
namespace Go.Proofs.Ytahommgchnbnjaa

/-- The entries of the yard from the oldest to the newest. -/
structure Inv (ys : Ys) (p : Nat) (al : List Ent) : Prop where
  perm : al.Perm ys.flatten
  sort : al.Pairwise (fun a b => a.2 < b.2)
  lt : ∀ e ∈ al, e.2 < p
  nd : (al.map Prod.fst).Nodup
  nn : ∀ e ∈ al, e.1 ≠ nul

theorem flat_set : ∀ (ys : Ys) (i : Nat) (es es' : List Ent), ys[i]? = some es → ((ys.set i es').flatten ++ es).Perm (ys.flatten ++ es')
  | [], _, _, _, h => by simp at h
  | a :: ys, 0, es, es', h => by
    simp at h
    subst h
    simp only [List.set_cons_zero, List.flatten_cons]
    refine List.perm_append_comm.trans ?_
    rw [List.append_assoc]
    exact List.Perm.append_left a List.perm_append_comm
  | a :: ys, i + 1, es, es', h => by
    simp only [List.set_cons_succ, List.flatten_cons, List.append_assoc]
    exact List.Perm.append_left a (flat_set ys i es es' (by simpa using h))
theorem inv_new (n : Nat) : Inv (List.replicate n []) 0 [] := ⟨by simp, by simp, by simp, by simp, by simp⟩
theorem mem_flat {ys : Ys} {k m : Nat} {es : List Ent} {e : Ent} (h : ys[k]? = some es) (he : es[m]? = some e) : e ∈ ys.flatten := List.mem_flatten.2 ⟨es, List.mem_of_getElem? h, List.mem_of_getElem? he⟩
theorem findY_isSome {ys : Ys} {x : Bs} : (findY ys x 0).isSome = true ↔ ∃ e ∈ ys.flatten, e.1 = x := by
  constructor
  · intro h
    obtain ⟨r, hr⟩ := Option.isSome_iff_exists.1 h
    obtain ⟨j, es, e, _, h1, h2, h3, _⟩ := findY_inv ys x 0 r.1 r.2 hr
    exact ⟨e, mem_flat h1 h2, h3⟩
  · rintro ⟨e, he, hx⟩
    cases h : findY ys x 0 with
    | some r => rfl
    | none =>
      obtain ⟨es, h1, h2⟩ := List.mem_flatten.1 he
      exact absurd hx (findY_none_inv ys x 0 h es h1 e h2)
theorem Inv.is {ys : Ys} {p : Nat} {al : List Ent} (h : Inv ys p al) (x : Bs) : (findY ys x 0).isSome = true ↔ x ∈ al.map Prod.fst := by
  rw [findY_isSome, List.mem_map]
  constructor
  · rintro ⟨e, he, hx⟩
    exact ⟨e, h.perm.mem_iff.2 he, hx⟩
  · rintro ⟨e, he, hx⟩
    exact ⟨e, h.perm.mem_iff.1 he, hx⟩
/-- What a Put does: it is refused and changes nothing, or it adds a newest entry. -/
theorem put_cases (c : Nat) (ys : Ys) (p : Nat) (i : Int) (x : Bs) : (∃ e, e ≠ 0 ∧ yPut c ys p i x = (ys, p, e)) ∨ ∃ k es, i = (k : Nat) ∧ ys[k]? = some es ∧ x ≠ nul ∧ findY ys x 0 = none ∧ es.length < c ∧ yPut c ys p i x = (ys.set k (es ++ [(x, p)]), p + 1, 0) := by
  by_cases h0 : i < 0 ∨ (ys.length : Int) ≤ i
  · exact .inl ⟨9, by omega, yPut_out h0⟩
  · obtain ⟨k, rfl⟩ : ∃ k : Nat, i = k := ⟨i.toNat, by omega⟩
    have hk : k < ys.length := by omega
    obtain ⟨es, hes⟩ : ∃ es, ys[k]? = some es := ⟨_, List.getElem?_eq_getElem hk⟩
    by_cases h1 : x = nul
    · exact .inl ⟨6, by omega, yPut_nul hk h1⟩
    · cases h2 : findY ys x 0 with
      | some r => exact .inl ⟨7, by omega, yPut_has hk h1 (by rw [h2]; rfl)⟩
      | none =>
        by_cases h3 : c ≤ es.length
        · exact .inl ⟨12, by omega, yPut_full hes h1 (by rw [h2]; rfl) h3⟩
        · exact .inr ⟨k, es, rfl, hes, h1, rfl, by omega, yPut_ok hes h1 (by rw [h2]; rfl) (by omega)⟩
theorem Inv.put {ys : Ys} {p k : Nat} {al es : List Ent} {x : Bs} (h : Inv ys p al) (hes : ys[k]? = some es) (hx : x ≠ nul) (hf : findY ys x 0 = none) : Inv (ys.set k (es ++ [(x, p)])) (p + 1) (al ++ [(x, p)]) := by
  have hn : x ∉ al.map Prod.fst := fun e => by
    have := (h.is x).2 e
    rw [hf] at this
    cases this
  refine ⟨?_, ?_, ?_, ?_, ?_⟩
  · have h1 := flat_set ys k es (es ++ [(x, p)]) hes
    have h2 : ((ys.set k (es ++ [(x, p)])).flatten ++ es).Perm ((al ++ [(x, p)]) ++ es) := by
      refine h1.trans ?_
      rw [List.append_assoc]
      exact (h.perm.symm.append (List.perm_append_comm (l₁ := es) (l₂ := [(x, p)])))
    exact ((List.perm_append_right_iff es).1 h2).symm
  · rw [List.pairwise_append]
    exact ⟨h.sort, by simp, fun a ha b hb => by simp at hb; subst hb; exact h.lt a ha⟩
  · intro e he
    rcases List.mem_append.1 he with he | he
    · have := h.lt e he; omega
    · simp at he; subst he; simp
  · rw [List.map_append, List.nodup_append]
    exact ⟨h.nd, by simp, fun a ha b hb => by simp at hb; subst hb; intro e; subst e; exact hn ha⟩
  · intro e he
    rcases List.mem_append.1 he with he | he
    · exact h.nn e he
    · simp at he; subst he; exact hx

/-! ### The oldest one -/
theorem fold_min : ∀ (l : List Ent) (a : Ent), ∃ m, l.foldl stepO (some a) = some m ∧ m ∈ a :: l ∧ ∀ e ∈ a :: l, m.2 ≤ e.2
  | [], a => ⟨a, rfl, by simp, by simp⟩
  | b :: l, a => by
    rw [List.foldl_cons]
    by_cases h : b.2 < a.2
    · have e : stepO (some a) b = some b := by simp [stepO, h]
      rw [e]
      obtain ⟨m, h1, h2, h3⟩ := fold_min l b
      refine ⟨m, h1, List.mem_cons_of_mem _ h2, fun e' he => ?_⟩
      rcases List.mem_cons.1 he with rfl | he
      · have := h3 b (by simp); omega
      · exact h3 e' he
    · have e : stepO (some a) b = some a := by simp [stepO, h]
      rw [e]
      obtain ⟨m, h1, h2, h3⟩ := fold_min l a
      refine ⟨m, h1, ?_, fun e' he => ?_⟩
      · rcases List.mem_cons.1 h2 with rfl | h2
        · simp
        · simp [h2]
      · simp only [List.mem_cons] at he
        rcases he with rfl | rfl | he
        · exact h3 _ (by simp)
        · have := h3 a (by simp); omega
        · exact h3 e' (by simp [he])
theorem Inv.old {ys : Ys} {p : Nat} {al : List Ent} (h : Inv ys p al) : yOld ys = al.head? := by
  unfold yOld
  cases hf : ys.flatten with
  | nil =>
    have := h.perm
    rw [hf] at this
    rw [this.eq_nil]
    rfl
  | cons a l =>
    obtain ⟨m, h1, h2, h3⟩ := fold_min l a
    have e : (a :: l).foldl stepO none = some m := h1
    rw [e]
    rw [← hf] at h2 h3
    cases ha : al with
    | nil =>
      have := h.perm
      rw [ha] at this
      rw [this.symm.eq_nil] at hf
      cases hf
    | cons b al' =>
      have hs := h.sort
      have hm := h.perm.mem_iff.2 h2
      rw [ha] at hs hm
      have hb := h3 b (h.perm.mem_iff.1 (by rw [ha]; simp))
      rcases List.mem_cons.1 hm with rfl | hm
      · rfl
      · have := (List.pairwise_cons.1 hs).1 m hm
        omega

/-! ### The moves -/
theorem moves_bays {c i : Nat} {ys : Ys} {es : List Ent} (h : ys[i]? = some es) : ∀ t, t ≤ es.length → t ≤ roomK c ys i ys.length →
    (movesY c i t ys).length = ys.length ∧ (movesY c i t ys)[i]? = some (es.take (es.length - t)) ∧ roomK c (movesY c i t ys) i ys.length + t = roomK c ys i ys.length ∧ (movesY c i t ys).flatten.Perm ys.flatten ∧
      ∀ (k : Nat) (fs : List Ent), k ≠ i → ys[k]? = some fs → ∃ gs, (movesY c i t ys)[k]? = some (fs ++ gs)
  | 0, _, _ => ⟨rfl, by simpa [movesY] using h, rfl, List.Perm.refl _, fun k fs _ hk => ⟨[], by simpa [movesY] using hk⟩⟩
  | t + 1, h1, h2 => by
    obtain ⟨k1, k2, k3, k4, k5⟩ := moves_bays (c := c) h t (by omega) (by omega)
    have hne : es.take (es.length - t) ≠ [] := fun e => by
      have := congrArg List.length e
      simp at this
      omega
    obtain ⟨e, he⟩ : ∃ e, (es.take (es.length - t)).getLast? = some e := ⟨_, List.getLast?_eq_some_getLast hne⟩
    obtain ⟨fs, f1, f2, f3, f4, f5, f6, f7, f8⟩ := moveY_step (c := c) k2 he (by rw [k1]; omega)
    rw [movesY_succ]
    have hdl : (es.take (es.length - t)).dropLast = es.take (es.length - (t + 1)) := by
      rw [List.dropLast_eq_take, List.take_take, List.length_take]
      congr 1
      omega
    have hsplit : es.take (es.length - t) = (es.take (es.length - t)).dropLast ++ [e] := by
      obtain ⟨l, hl⟩ := List.getLast?_eq_some_iff.1 he
      rw [hl, List.dropLast_concat]
    have hij := List.getElem?_eq_some_iff.1 k2
    rw [k1] at f1 f7
    refine ⟨f6.trans k1, ?_, by omega, ?_, fun k gs hk hks => ?_⟩
    · rw [f5, List.getElem?_set, if_neg f2, List.getElem?_set, if_pos rfl, if_pos hij.1, hdl]
    · refine List.Perm.trans ?_ k4
      rw [f5]
      have p1 := flat_set (movesY c i t ys) i _ (es.take (es.length - t)).dropLast k2
      have p2 : (((movesY c i t ys).set i (es.take (es.length - t)).dropLast).flatten ++ [e]).Perm (movesY c i t ys).flatten := by
        refine (List.perm_append_right_iff (es.take (es.length - t)).dropLast).1 ?_
        refine List.Perm.trans ?_ p1
        rw [List.append_assoc]
        refine List.Perm.append_left _ ?_
        refine List.Perm.trans ?_ (List.Perm.of_eq hsplit.symm)
        exact List.perm_append_comm
      have p3 := flat_set ((movesY c i t ys).set i (es.take (es.length - t)).dropLast) (firstS c (movesY c i t ys) i) fs (fs ++ [e]) (by rw [List.getElem?_set, if_neg (Ne.symm f2)]; exact f3)
      refine List.Perm.trans ?_ p2
      refine (List.perm_append_right_iff fs).1 ?_
      refine p3.trans ?_
      rw [List.append_assoc]
      exact List.Perm.append_left _ List.perm_append_comm
    · obtain ⟨hs, hhs⟩ := k5 k gs hk hks
      rw [f5, List.getElem?_set]
      by_cases e' : firstS c (movesY c i t ys) i = k
      · rw [if_pos e', if_pos (by simp [k1]; exact f1)]
        have : fs = gs ++ hs := by rw [e', hhs] at f3; exact (Option.some.inj f3).symm
        exact ⟨hs ++ [e], by rw [this, List.append_assoc]⟩
      · rw [if_neg e', List.getElem?_set, if_neg (Ne.symm hk)]
        exact ⟨hs, hhs⟩

/-- What a Take does. -/
structure TakeO (c : Nat) (ys : Ys) (x : Bs) (i m : Nat) (es : List Ent) (e0 : Ent) (ys' : Ys) : Prop where
  h : findY ys x 0 = some (i, m)
  hes : ys[i]? = some es
  hm : es[m]? = some e0
  hx : e0.1 = x
  e : yTake c ys x = (ys', lenAt ys i - 1 - m, 0)
  len : ys'.length = ys.length
  bay : ys'[i]? = some (es.take m)
  perm : (ys'.flatten ++ [e0]).Perm ys.flatten
  others : ∀ (k : Nat) (fs : List Ent), k ≠ i → ys[k]? = some fs → ∃ gs, ys'[k]? = some (fs ++ gs)
def TakeC (c : Nat) (ys : Ys) (x : Bs) : Prop := (findY ys x 0 = none ∧ yTake c ys x = (ys, 0, 8)) ∨ (∃ i m, findY ys x 0 = some (i, m) ∧ yTake c ys x = (ys, 0, 12)) ∨ ∃ i m es e0 ys', TakeO c ys x i m es e0 ys'
theorem take_cases (c : Nat) (ys : Ys) (x : Bs) : TakeC c ys x := by
  cases hf : findY ys x 0 with
  | none => exact .inl ⟨hf, yTake_none hf⟩
  | some r =>
    obtain ⟨i, m⟩ := r
    by_cases hr : roomK c ys i ys.length < lenAt ys i - 1 - m
    · exact .inr (.inl ⟨i, m, hf, yTake_full hf hr⟩)
    · obtain ⟨j, es, e0, hj, hes, hm, hx, _, _⟩ := findY_inv ys x 0 i m hf
      obtain rfl : i = j := by omega
      have hml := (List.getElem?_eq_some_iff.1 hm).1
      have hla := lenAt_some hes
      have hil := (List.getElem?_eq_some_iff.1 hes).1
      obtain ⟨k1, k2, k3, k4, k5⟩ := moves_bays (c := c) hes (lenAt ys i - 1 - m) (by omega) (by omega)
      have hk2 : es.length - (lenAt ys i - 1 - m) = m + 1 := by omega
      rw [hk2] at k2
      have htk : es.take (m + 1) = es.take m ++ [e0] := by rw [List.take_add_one, hm]; rfl
      have hpop : popY (movesY c i (lenAt ys i - 1 - m) ys) i = (movesY c i (lenAt ys i - 1 - m) ys).set i (es.take m) := by
        unfold popY
        rw [k2, htk]
        simp
      refine .inr (.inr ⟨i, m, es, e0, _, hf, hes, hm, hx, yTake_ok hf hr, ?_, ?_, ?_, fun k fs hk hks => ?_⟩)
      · rw [hpop, List.length_set, k1]
      · rw [hpop, List.getElem?_set, if_pos rfl, if_pos (by rw [k1]; exact hil)]
      · rw [hpop]
        refine List.Perm.trans ?_ k4
        have p1 := flat_set (movesY c i (lenAt ys i - 1 - m) ys) i _ (es.take m) k2
        rw [htk] at p1
        refine (List.perm_append_right_iff (es.take m)).1 (List.Perm.trans ?_ p1)
        rw [List.append_assoc]
        exact List.Perm.append_left _ List.perm_append_comm
      · obtain ⟨gs, hgs⟩ := k5 k fs hk hks
        exact ⟨gs, by rw [hpop, List.getElem?_set, if_neg (Ne.symm hk)]; exact hgs⟩
theorem filter_self {al : List Ent} {x : Bs} (h : x ∉ al.map Prod.fst) : al.filter (fun e => decide (e.1 ≠ x)) = al := by
  rw [List.filter_eq_self]
  intro e he
  simp only [decide_eq_true_eq]
  exact fun hx => h (List.mem_map.2 ⟨e, he, hx⟩)
/-- The entries behind a Take. -/
theorem Inv.take {ys ys' : Ys} {p : Nat} {al : List Ent} {x : Bs} {e0 : Ent} (h : Inv ys p al) (hx : e0.1 = x) (hp : (ys'.flatten ++ [e0]).Perm ys.flatten) : Inv ys' p (al.filter fun e => decide (e.1 ≠ x)) := by
  have q := h.perm.trans hp.symm
  have hnd : ((ys'.flatten ++ [e0]).map Prod.fst).Nodup := (q.map Prod.fst).nodup_iff.1 h.nd
  rw [List.map_append, List.nodup_append] at hnd
  have hn : x ∉ ys'.flatten.map Prod.fst := fun hm => hnd.2.2 x hm e0.1 (by simp) hx.symm
  refine ⟨?_, h.sort.filter _, fun e he => h.lt e (List.mem_filter.1 he).1, ?_, fun e he => h.nn e (List.mem_filter.1 he).1⟩
  · have := q.filter (fun e => decide (e.1 ≠ x))
    rw [List.filter_append, filter_self hn] at this
    simpa [hx] using this
  · exact h.nd.sublist ((List.filter_sublist).map Prod.fst)
theorem take_head {a : Ent} {al : List Ent} (h : ((a :: al).map Prod.fst).Nodup) : (a :: al).filter (fun e => decide (e.1 ≠ a.1)) = al := by
  rw [List.map_cons, List.nodup_cons] at h
  rw [List.filter_cons, if_neg (by simp)]
  exact filter_self h.1
theorem totK_flat (ys : Ys) : ∀ k, totK ys k = (ys.take k).flatten.length
  | 0 => by simp [totK]
  | k + 1 => by
    rw [totK, totK_flat ys k, List.take_add_one]
    unfold lenAt
    cases ys[k]? <;> simp
theorem Inv.len {ys : Ys} {p : Nat} {al : List Ent} (h : Inv ys p al) : totK ys ys.length = al.length := by
  rw [totK_flat, List.take_length]
  exact h.perm.length_eq.symm

/-! ### Each item lies at one place -/
theorem place_one {ys : Ys} (h : (ys.flatten.map Prod.fst).Nodup) {k m k' m' : Nat} {es es' : List Ent} {e e' : Ent} (h1 : ys[k]? = some es) (h2 : es[m]? = some e) (h3 : ys[k']? = some es') (h4 : es'[m']? = some e') (hx : e.1 = e'.1) : k = k' ∧ m = m' := by
  rw [List.map_flatten] at h
  have hh := List.pairwise_flatten.1 h
  have g1 : (ys.map (List.map Prod.fst))[k]? = some (es.map Prod.fst) := by simp [h1]
  have g3 : (ys.map (List.map Prod.fst))[k']? = some (es'.map Prod.fst) := by simp [h3]
  have i1 : e.1 ∈ es.map Prod.fst := List.mem_map.2 ⟨e, List.mem_of_getElem? h2, rfl⟩
  have i3 : e'.1 ∈ es'.map Prod.fst := List.mem_map.2 ⟨e', List.mem_of_getElem? h4, rfl⟩
  have hpw := List.pairwise_iff_getElem.1 hh.2
  obtain ⟨l1, q1⟩ := List.getElem?_eq_some_iff.1 g1
  obtain ⟨l3, q3⟩ := List.getElem?_eq_some_iff.1 g3
  have hkk : k = k' := by
    rcases Nat.lt_trichotomy k k' with hl | hl | hl
    · have := hpw k k' l1 l3 hl
      rw [q1, q3] at this
      exact absurd hx (this _ i1 _ i3)
    · exact hl
    · have := hpw k' k l3 l1 hl
      rw [q1, q3] at this
      exact absurd hx.symm (this _ i3 _ i1)
  subst hkk
  rw [h1] at h3
  cases h3
  refine ⟨rfl, ?_⟩
  have hnd : (es.map Prod.fst).Nodup := hh.1 _ (List.mem_of_getElem? g1)
  have j1 : (es.map Prod.fst)[m]? = some e.1 := by simp [h2]
  have j2 : (es.map Prod.fst)[m']? = some e.1 := by simp [h4, hx]
  exact (List.getElem?_inj (by have := (List.getElem?_eq_some_iff.1 j1).1; exact this) hnd).1 (j1.trans j2.symm)
theorem Inv.nodup {ys : Ys} {p : Nat} {al : List Ent} (h : Inv ys p al) : (ys.flatten.map Prod.fst).Nodup := (h.perm.map Prod.fst).nodup_iff.1 h.nd
theorem Inv.find {ys : Ys} {p : Nat} {al : List Ent} (h : Inv ys p al) {k m : Nat} {es : List Ent} {e : Ent} (h1 : ys[k]? = some es) (h2 : es[m]? = some e) : findY ys e.1 0 = some (k, m) := by
  have hs := findY_isSome.2 ⟨e, mem_flat h1 h2, rfl⟩
  obtain ⟨r, hr⟩ := Option.isSome_iff_exists.1 hs
  obtain ⟨j, es', e', hj, h3, h4, h5, _, _⟩ := findY_inv ys e.1 0 r.1 r.2 hr
  obtain ⟨rfl, rfl⟩ := place_one h.nodup h1 h2 h3 h4 h5.symm
  rw [hr]
  congr 1
  exact Prod.ext (by omega) rfl

end Go.Proofs.Ytahommgchnbnjaa
