/-
  The yard in plain words: finding, the oldest entry, putting, taking.
-/
import Derived.Test.YtahommgchnbnjaaWalkc
namespace Go.Proofs.Ytahommgchnbnjaa

abbrev Ys := List (List Ent)
/-- The place of an item in a bay. -/
def atE : List Ent → Bs → Nat → Option Nat
  | [], _, _ => none
  | e :: es, x, k => if e.1 = x then some k else atE es x (k + 1)
/-- The bay of an item and its place there. -/
def findY : Ys → Bs → Nat → Option (Nat × Nat)
  | [], _, _ => none
  | es :: ys, x, i => match atE es x 0 with
    | some k => some (i, k)
    | none => findY ys x (i + 1)
theorem atE_none : ∀ (es : List Ent) (x : Bs) (k : Nat), (∀ e ∈ es, e.1 ≠ x) → atE es x k = none
  | [], _, _, _ => rfl
  | e :: es, x, k, h => by
    unfold atE
    rw [if_neg (h e (List.mem_cons_self ..))]
    exact atE_none es x (k + 1) (fun e' he => h e' (List.mem_cons_of_mem _ he))
theorem atE_hit : ∀ (es : List Ent) (x : Bs) (k m : Nat) (e : Ent), (∀ e ∈ es.take m, e.1 ≠ x) → es[m]? = some e → e.1 = x → atE es x k = some (k + m)
  | [], _, _, _, _, _, h, _ => by simp at h
  | a :: es, x, k, 0, e, _, h, hx => by
    simp at h
    subst h
    unfold atE
    rw [if_pos hx]
    rfl
  | a :: es, x, k, m + 1, e, h0, h, hx => by
    unfold atE
    rw [if_neg (h0 a (by simp))]
    rw [atE_hit es x (k + 1) m e (fun e' he => h0 e' (by simp [he])) (by simpa using h) hx]
    congr 1
    omega
theorem findY_none : ∀ (ys : Ys) (x : Bs) (i : Nat), (∀ es ∈ ys, ∀ e ∈ es, e.1 ≠ x) → findY ys x i = none
  | [], _, _, _ => rfl
  | es :: ys, x, i, h => by
    unfold findY
    rw [atE_none es x 0 (h es (List.mem_cons_self ..))]
    exact findY_none ys x (i + 1) (fun e' he => h e' (List.mem_cons_of_mem _ he))
theorem findY_hit : ∀ (ys : Ys) (x : Bs) (i k m : Nat) (es : List Ent) (e : Ent), (∀ es ∈ ys.take k, ∀ e ∈ es, e.1 ≠ x) → ys[k]? = some es → (∀ e ∈ es.take m, e.1 ≠ x) → es[m]? = some e → e.1 = x → findY ys x i = some (i + k, m)
  | [], _, _, _, _, _, _, _, h, _, _, _ => by simp at h
  | a :: ys, x, i, 0, m, es, e, _, h, h1, h2, hx => by
    simp at h
    subst h
    unfold findY
    rw [atE_hit a x 0 m e h1 h2 hx]
    simp
  | a :: ys, x, i, k + 1, m, es, e, h0, h, h1, h2, hx => by
    unfold findY
    rw [atE_none a x 0 (h0 a (by simp))]
    simp only
    rw [findY_hit ys x (i + 1) k m es e (fun e' he => h0 e' (by simp [he])) (by simpa using h) h1 h2 hx]
    congr 2
    omega
theorem atE_inv : ∀ (es : List Ent) (x : Bs) (k r : Nat), atE es x k = some r → ∃ m e, r = k + m ∧ es[m]? = some e ∧ e.1 = x ∧ ∀ e ∈ es.take m, e.1 ≠ x
  | [], _, _, _, h => by simp [atE] at h
  | a :: es, x, k, r, h => by
    unfold atE at h
    split at h
    · rename_i hx
      simp at h
      exact ⟨0, a, h.symm, rfl, hx, by simp⟩
    · rename_i hx
      obtain ⟨m, e, h1, h2, h3, h4⟩ := atE_inv es x (k + 1) r h
      refine ⟨m + 1, e, by omega, by simpa using h2, h3, fun e' he => ?_⟩
      simp at he
      rcases he with rfl | he
      · exact hx
      · exact h4 e' he
theorem atE_none_inv : ∀ (es : List Ent) (x : Bs) (k : Nat), atE es x k = none → ∀ e ∈ es, e.1 ≠ x
  | [], _, _, _, e, he => by simp at he
  | a :: es, x, k, h, e, he => by
    unfold atE at h
    split at h
    · simp at h
    · rename_i hx
      rcases List.mem_cons.1 he with rfl | he
      · exact hx
      · exact atE_none_inv es x (k + 1) h e he
theorem findY_inv : ∀ (ys : Ys) (x : Bs) (i k m : Nat), findY ys x i = some (k, m) → ∃ j es e, k = i + j ∧ ys[j]? = some es ∧ es[m]? = some e ∧ e.1 = x ∧ (∀ e ∈ es.take m, e.1 ≠ x) ∧ ∀ es ∈ ys.take j, ∀ e ∈ es, e.1 ≠ x
  | [], _, _, _, _, h => by simp [findY] at h
  | a :: ys, x, i, k, m, h => by
    unfold findY at h
    cases ha : atE a x 0 with
    | some r =>
      rw [ha] at h
      simp at h
      obtain ⟨rfl, rfl⟩ := h
      obtain ⟨m, e, h1, h2, h3, h4⟩ := atE_inv a x 0 r ha
      obtain rfl : m = r := by omega
      exact ⟨0, a, e, rfl, rfl, h2, h3, h4, by simp⟩
    | none =>
      rw [ha] at h
      simp only at h
      obtain ⟨j, es, e, h1, h2, h3, h4, h5, h6⟩ := findY_inv ys x (i + 1) k m h
      refine ⟨j + 1, es, e, by omega, by simpa using h2, h3, h4, h5, fun e' he => ?_⟩
      simp at he
      rcases he with rfl | he
      · exact atE_none_inv _ x 0 ha
      · exact h6 e' he
theorem findY_none_inv : ∀ (ys : Ys) (x : Bs) (i : Nat), findY ys x i = none → ∀ es ∈ ys, ∀ e ∈ es, e.1 ≠ x
  | [], _, _, _, es, he => by simp at he
  | a :: ys, x, i, h, es, he => by
    unfold findY at h
    cases ha : atE a x 0 with
    | some r => rw [ha] at h; simp at h
    | none =>
      rw [ha] at h
      simp only at h
      rcases List.mem_cons.1 he with rfl | he
      · exact atE_none_inv _ x 0 ha
      · exact findY_none_inv ys x (i + 1) h es he

/-- What Find says: the bay, how many lie above, and whether it was found. -/
def yFind (ys : Ys) (x : Bs) : Nat × Nat × Bool := match findY ys x 0 with
  | some (i, m) => (i, lenAt ys i - 1 - m, true)
  | none => (0, 0, false)
def findV (r : Nat × Nat × Bool) : Go.Value := .tuple #[.int .i64 (r.1 : Nat), .int .i64 (r.2.1 : Nat), .bool r.2.2]

/-- The older of two entries; the first one where they are alike. -/
def stepO (o : Option Ent) (e : Ent) : Option Ent := match o with
  | none => some e
  | some f => if e.2 < f.2 then some e else some f
def yOld (ys : Ys) : Option Ent := ys.flatten.foldl stepO none
/-- What Oldest has seen in k bays and m entries of the next one. -/
def oldKM (ys : Ys) (k m : Nat) : Option Ent := ((ys.take k).flatten ++ (ys[k]?.getD []).take m).foldl stepO none
theorem oldKM_zero (ys : Ys) : oldKM ys 0 0 = none := by simp [oldKM]
theorem oldKM_entry {ys : Ys} {k m : Nat} {es : List Ent} {e : Ent} (h : ys[k]? = some es) (he : es[m]? = some e) : oldKM ys k (m + 1) = stepO (oldKM ys k m) e := by
  unfold oldKM
  rw [h]
  simp only [Option.getD_some]
  rw [List.take_add_one, he]
  simp [← List.append_assoc]
theorem oldKM_bay {ys : Ys} {k : Nat} {es : List Ent} (h : ys[k]? = some es) : oldKM ys (k + 1) 0 = oldKM ys k es.length := by
  unfold oldKM
  rw [h]
  simp only [Option.getD_some, List.take_zero, List.append_nil, List.take_length]
  rw [List.take_add_one, h]
  simp
theorem oldKM_end {ys : Ys} {k : Nat} (h : k = ys.length) : oldKM ys k 0 = yOld ys := by
  unfold oldKM yOld
  subst h
  simp
def oldV (o : Option Ent) : Go.Value := .tuple #[.string ((o.map Prod.fst).getD nul), .bool o.isSome]

end Go.Proofs.Ytahommgchnbnjaa
