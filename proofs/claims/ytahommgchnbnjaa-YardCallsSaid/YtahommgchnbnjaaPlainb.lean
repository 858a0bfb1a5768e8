/-
  Putting and taking in plain words.
-/
import Derived.Test.YtahommgchnbnjaaPlain
namespace Go.Proofs.Ytahommgchnbnjaa

/-- What Put leaves: the bays, the number of puts, the error. -/
def yPut (c : Nat) (ys : Ys) (p : Nat) (i : Int) (x : Bs) : Ys × Nat × Int :=
  if i < 0 ∨ (ys.length : Int) ≤ i then (ys, p, 9)
  else if x = nul then (ys, p, 6)
  else if (findY ys x 0).isSome then (ys, p, 7)
  else if c ≤ lenAt ys i.toNat then (ys, p, 12)
  else (ys.set i.toNat ((ys[i.toNat]?.getD []) ++ [(x, p)]), p + 1, 0)
theorem yPut_out {c p : Nat} {ys : Ys} {i : Int} {x : Bs} (h : i < 0 ∨ (ys.length : Int) ≤ i) : yPut c ys p i x = (ys, p, 9) := if_pos h
theorem yPut_nul {c p i : Nat} {ys : Ys} {x : Bs} (h : i < ys.length) (h1 : x = nul) : yPut c ys p i x = (ys, p, 6) := by
  unfold yPut
  rw [if_neg (by omega), if_pos h1]
theorem yPut_has {c p i : Nat} {ys : Ys} {x : Bs} (h : i < ys.length) (h1 : x ≠ nul) (h2 : (findY ys x 0).isSome = true) : yPut c ys p i x = (ys, p, 7) := by
  unfold yPut
  rw [if_neg (by omega), if_neg h1, if_pos h2]
theorem yPut_full {c p i : Nat} {ys : Ys} {x : Bs} {es : List Ent} (h : ys[i]? = some es) (h1 : x ≠ nul) (h2 : (findY ys x 0).isSome = false) (h3 : c ≤ es.length) : yPut c ys p i x = (ys, p, 12) := by
  have := (List.getElem?_eq_some_iff.1 h).1
  unfold yPut
  rw [if_neg (by omega), if_neg h1, if_neg (by simp [h2]), if_pos (by simpa [lenAt, h] using h3)]
theorem yPut_ok {c p i : Nat} {ys : Ys} {x : Bs} {es : List Ent} (h : ys[i]? = some es) (h1 : x ≠ nul) (h2 : (findY ys x 0).isSome = false) (h3 : es.length < c) : yPut c ys p i x = (ys.set i (es ++ [(x, p)]), p + 1, 0) := by
  have := (List.getElem?_eq_some_iff.1 h).1
  unfold yPut
  rw [if_neg (by omega), if_neg h1, if_neg (by simp [h2]), if_neg (by simpa [lenAt, h] using h3)]
  simp [h]

/-- The topmost entry of bay i is moved to the first other bay with room. -/
def moveY (c : Nat) (ys : Ys) (i : Nat) : Ys := match ys[i]? with
  | none => ys
  | some es => match es.getLast? with
    | none => ys
    | some e => (ys.set i es.dropLast).set (firstS c ys i) ((ys[firstS c ys i]?.getD []) ++ [e])
def movesY (c i : Nat) : Nat → Ys → Ys
  | 0, ys => ys
  | n + 1, ys => movesY c i n (moveY c ys i)
def popY (ys : Ys) (i : Nat) : Ys := ys.set i ((ys[i]?.getD []).dropLast)
/-- What Take leaves: the bays, the number of moves, the error. -/
def yTake (c : Nat) (ys : Ys) (x : Bs) : Ys × Nat × Int := match findY ys x 0 with
  | none => (ys, 0, 8)
  | some (i, m) => if roomK c ys i ys.length < lenAt ys i - 1 - m then (ys, 0, 12) else (popY (movesY c i (lenAt ys i - 1 - m) ys) i, lenAt ys i - 1 - m, 0)

theorem lenAt_set_ne {ys : Ys} {i k : Nat} {es : List Ent} (h : i ≠ k) : lenAt (ys.set i es) k = lenAt ys k := by
  unfold lenAt
  rw [List.getElem?_set, if_neg h]
theorem lenAt_set {ys : Ys} {i : Nat} {es : List Ent} (h : i < ys.length) : lenAt (ys.set i es) i = es.length := by
  unfold lenAt
  rw [List.getElem?_set, if_pos rfl, if_pos h]
  rfl
theorem lenAt_some {ys : Ys} {i : Nat} {es : List Ent} (h : ys[i]? = some es) : lenAt ys i = es.length := by
  unfold lenAt
  rw [h]
  rfl
theorem firstS_set {c i : Nat} {ys : Ys} {es : List Ent} : firstS c (ys.set i es) i = firstS c ys i := by
  unfold firstS
  rw [List.length_set]
  have : (fun j => firstK c (ys.set i es) i j) = fun j => firstK c ys i j := by
    funext j
    unfold firstK
    by_cases h : i = j
    · subst h; simp
    · rw [lenAt_set_ne h]
  rw [show firstK c (ys.set i es) i = firstK c ys i from this]
theorem roomK_set_self (c : Nat) (ys : Ys) (i : Nat) (es : List Ent) : ∀ k, roomK c (ys.set i es) i k = roomK c ys i k
  | 0 => rfl
  | k + 1 => by
    unfold roomK
    rw [roomK_set_self c ys i es k]
    by_cases h : k = i
    · simp [h]
    · rw [lenAt_set_ne (fun e => h e.symm)]
theorem roomK_set_lt (c : Nat) (ys : Ys) (i j : Nat) (es : List Ent) : ∀ k, k ≤ j → roomK c (ys.set j es) i k = roomK c ys i k
  | 0, _ => rfl
  | k + 1, h => by
    unfold roomK
    rw [roomK_set_lt c ys i j es k (by omega), lenAt_set_ne (by omega)]
theorem roomK_push {c i j : Nat} {ys : Ys} {es : List Ent} (hj : j < ys.length) (hij : j ≠ i) (hl : es.length = lenAt ys j + 1) (hc : lenAt ys j < c) : ∀ k, j < k → roomK c (ys.set j es) i k + 1 = roomK c ys i k
  | 0, h => by omega
  | k + 1, h => by
    unfold roomK
    by_cases e : k = j
    · subst e
      rw [roomK_set_lt c ys i k es k (Nat.le_refl _), if_neg hij, if_neg hij, lenAt_set hj]
      omega
    · have := roomK_push (es := es) hj hij hl hc k (by omega)
      rw [lenAt_set_ne (fun x => e x.symm)]
      omega
/-- There is a bay with room where there is room. -/
theorem firstS_room {c i : Nat} {ys : Ys} : ∀ k, k ≤ ys.length → 0 < roomK c ys i k → firstS c ys i < ys.length ∧ firstS c ys i ≠ i ∧ lenAt ys (firstS c ys i) < c := by
  intro k hk h
  have key : ∃ j, j < ys.length ∧ firstK c ys i j = true := by
    induction k with
    | zero => simp [roomK] at h
    | succ k ih =>
      unfold roomK at h
      by_cases h0 : 0 < roomK c ys i k
      · exact ih (by omega) h0
      · by_cases e : k = i
        · simp [e] at h; simp [e] at h0; omega
        · rw [if_neg e] at h
          have hl : lenAt ys k < c := by omega
          exact ⟨k, by omega, by simp [firstK, e, hl]⟩
  obtain ⟨j, hj, hf⟩ := key
  unfold firstS
  have : ((List.range ys.length).find? (firstK c ys i)).isSome := by
    rw [List.find?_isSome]
    exact ⟨j, List.mem_range.2 hj, hf⟩
  obtain ⟨r, hr⟩ := Option.isSome_iff_exists.1 this
  rw [hr]
  have h1 := List.find?_some hr
  have h2 := List.mem_of_find?_eq_some hr
  simp [firstK] at h1
  exact ⟨List.mem_range.1 h2, h1.1, h1.2⟩
theorem movesY_succ (c i : Nat) : ∀ (n : Nat) (ys : Ys), movesY c i (n + 1) ys = moveY c (movesY c i n ys) i
  | 0, _ => rfl
  | n + 1, ys => by
    rw [movesY, movesY_succ c i n (moveY c ys i)]
    rfl
/-- One move, where there is something to move and room for it. -/
theorem moveY_step {c i : Nat} {ys : Ys} {es : List Ent} {e : Ent} (h : ys[i]? = some es) (he : es.getLast? = some e) (hr : 0 < roomK c ys i ys.length) :
    ∃ fs, firstS c ys i < ys.length ∧ firstS c ys i ≠ i ∧ ys[firstS c ys i]? = some fs ∧ fs.length < c ∧ moveY c ys i = (ys.set i es.dropLast).set (firstS c ys i) (fs ++ [e]) ∧ (moveY c ys i).length = ys.length ∧
      roomK c (moveY c ys i) i ys.length + 1 = roomK c ys i ys.length ∧ lenAt (moveY c ys i) i + 1 = lenAt ys i := by
  obtain ⟨h1, h2, h3⟩ := firstS_room _ (Nat.le_refl _) hr
  have hi := (List.getElem?_eq_some_iff.1 h).1
  obtain ⟨fs, hf⟩ : ∃ fs, ys[firstS c ys i]? = some fs := ⟨_, List.getElem?_eq_getElem h1⟩
  have hm : moveY c ys i = (ys.set i es.dropLast).set (firstS c ys i) (fs ++ [e]) := by
    unfold moveY
    rw [h]
    simp only [he, hf, Option.getD_some]
  have hne : es ≠ [] := fun x => by rw [x] at he; simp at he
  have hpos := List.length_pos_iff.2 hne
  have hlf := lenAt_some hf
  refine ⟨fs, h1, h2, hf, by rw [← hlf]; exact h3, hm, by rw [hm]; simp, ?_, ?_⟩
  · rw [hm]
    have := roomK_push (c := c) (i := i) (j := firstS c ys i) (ys := ys.set i es.dropLast) (es := fs ++ [e]) (by simpa using h1) h2 (by rw [lenAt_set_ne (Ne.symm h2), hlf]; simp) (by rw [lenAt_set_ne (Ne.symm h2)]; exact h3) ys.length h1
    rw [roomK_set_self] at this
    exact this
  · rw [hm, lenAt_set_ne h2, lenAt_set hi, lenAt_some h, List.length_dropLast]
    omega
theorem yTake_none {c : Nat} {ys : Ys} {x : Bs} (h : findY ys x 0 = none) : yTake c ys x = (ys, 0, 8) := by unfold yTake; rw [h]
theorem yTake_full {c i m : Nat} {ys : Ys} {x : Bs} (h : findY ys x 0 = some (i, m)) (hr : roomK c ys i ys.length < lenAt ys i - 1 - m) : yTake c ys x = (ys, 0, 12) := by
  unfold yTake
  rw [h]
  simp only
  rw [if_pos hr]
theorem yTake_ok {c i m : Nat} {ys : Ys} {x : Bs} (h : findY ys x 0 = some (i, m)) (hr : ¬ roomK c ys i ys.length < lenAt ys i - 1 - m) : yTake c ys x = (popY (movesY c i (lenAt ys i - 1 - m) ys) i, lenAt ys i - 1 - m, 0) := by
  unfold yTake
  rw [h]
  simp only
  rw [if_neg hr]
theorem yFind_none {ys : Ys} {x : Bs} (h : findY ys x 0 = none) : yFind ys x = (0, 0, false) := by unfold yFind; rw [h]
theorem yFind_some {ys : Ys} {x : Bs} {i m : Nat} (h : findY ys x 0 = some (i, m)) : yFind ys x = (i, lenAt ys i - 1 - m, true) := by unfold yFind; rw [h]
theorem yFind_is (ys : Ys) (x : Bs) : (yFind ys x).2.2 = (findY ys x 0).isSome := by
  cases h : findY ys x 0 with
  | none => rw [yFind_none h]; rfl
  | some r => rw [yFind_some (i := r.1) (m := r.2) h]; rfl

end Go.Proofs.Ytahommgchnbnjaa
