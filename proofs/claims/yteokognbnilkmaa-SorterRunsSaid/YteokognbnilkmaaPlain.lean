/-
  The plain model of a sorter: a list of bins. No program in sight.
-/
import Derived.Test.YteokognbnilkmaaBase
namespace Go.Proofs.Yteokognbnilkmaa

abbrev Bs := ByteArray
def nul : Bs := ⟨#[]⟩

instance lawfulBytes : LawfulBEq ByteArray where
  eq_of_beq := fun {a b} h => (Go.MapKept.bytes_beq a b).1 h
  rfl := fun {a} => beqs a

structure Bin where
  key : Bs
  items : List Bs
abbrev Bins := List Bin

/-- The first bin of a kind. -/
def fnd (p : Bin → Bool) (bs : Bins) : Option Nat := bs.findIdx? p

theorem fnd_hit {p : Bin → Bool} {bs : Bins} {k : Nat} {b : Bin} (h : ∀ x ∈ bs.take k, p x = false) (hk : bs[k]? = some b) (hb : p b = true) : fnd p bs = some k := by
  obtain ⟨hl, he⟩ := List.getElem?_eq_some_iff.1 hk
  unfold fnd
  rw [List.findIdx?_eq_some_iff_getElem]
  refine ⟨hl, by rw [he]; exact hb, fun j hj => ?_⟩
  have := h bs[j] (by
    rw [List.mem_take_iff_getElem]
    exact ⟨j, by omega, rfl⟩)
  simp [this]
theorem fnd_none {p : Bin → Bool} {bs : Bins} (h : ∀ x ∈ bs, p x = false) : fnd p bs = none := by
  unfold fnd
  rw [List.findIdx?_eq_none_iff]
  exact h
theorem fnd_some {p : Bin → Bool} {bs : Bins} {k : Nat} (h : fnd p bs = some k) : ∃ b, bs[k]? = some b ∧ p b = true ∧ ∀ x ∈ bs.take k, p x = false := by
  unfold fnd at h
  rw [List.findIdx?_eq_some_iff_getElem] at h
  obtain ⟨hl, hp, hn⟩ := h
  refine ⟨bs[k], List.getElem?_eq_getElem hl, hp, fun x hx => ?_⟩
  rw [List.mem_take_iff_getElem] at hx
  obtain ⟨j, hj, rfl⟩ := hx
  simpa using hn j (by omega)
theorem fnd_none_iff {p : Bin → Bool} {bs : Bins} : fnd p bs = none ↔ ∀ x ∈ bs, p x = false := by
  unfold fnd
  rw [List.findIdx?_eq_none_iff]
theorem take_step {p : Bin → Bool} {bs : Bins} {k : Nat} {b : Bin} (h : ∀ x ∈ bs.take k, p x = false) (hk : bs[k]? = some b) (hb : p b = false) : ∀ x ∈ bs.take (k + 1), p x = false := by
  intro x hx
  rw [List.take_add_one, hk, List.mem_append] at hx
  rcases hx with hx | hx
  · exact h x hx
  · simp at hx; subst hx; exact hb

def pHas (x : Bs) (b : Bin) : Bool := decide (x ∈ b.items)
def pKey (c : Nat) (k : Bs) (b : Bin) : Bool := decide (b.key = k) && !decide (c ≤ b.items.length)
def pEmpty (b : Bin) : Bool := b.items.length == 0
def pFull (c : Nat) (b : Bin) : Bool := decide (c ≤ b.items.length)

/-- A bin with one item more. -/
def putAt (bs : Bins) (i : Nat) (k x : Bs) : Bins := bs.modify i fun b => ⟨k, b.items ++ [x]⟩
/-- Put: the bins behind it, the bin, the code. -/
def sPut (c : Nat) (bs : Bins) (k x : Bs) : Bins × Nat × Int :=
  if k = nul ∨ x = nul then (bs, 0, 6)
  else if (fnd (pHas x) bs).isSome then (bs, 0, 7)
  else match fnd (pKey c k) bs with
    | some i => (putAt bs i k x, i, 0)
    | none => match fnd pEmpty bs with
      | some i => (putAt bs i k x, i, 0)
      | none => (bs, 0, 12)
/-- Take: the bins behind it, the key, the items, the code. -/
def sTake (bs : Bins) (i : Int) : Bins × Bs × List Bs × Int :=
  if i < 0 ∨ (bs.length : Int) ≤ i then (bs, nul, [], 9)
  else match bs[i.toNat]? with
    | none => (bs, nul, [], 9)
    | some b => if b.items = [] then (bs, nul, [], 18) else (bs.set i.toNat ⟨nul, []⟩, b.key, b.items, 0)
/-- The first of the bins with the most items, and how many. -/
def most (bs : Bins) : Nat × Nat := bs.zipIdx.foldl (fun a x => if a.2 < x.1.items.length then (x.2, x.1.items.length) else a) (0, 0)
def tot (bs : Bins) : Nat := (bs.map (·.items.length)).sum

structure BOk (c : Nat) (bs : Bins) : Prop where
  c1 : 1 ≤ c
  c2 : c ≤ 32
  n1 : 1 ≤ bs.length
  n2 : bs.length ≤ 16
  le : ∀ b ∈ bs, b.items.length ≤ c
  nk : ∀ b ∈ bs, b.items = [] → b.key = nul

theorem most_snoc (bs : Bins) (b : Bin) : most (bs ++ [b]) = if (most bs).2 < b.items.length then (bs.length, b.items.length) else most bs := by
  unfold most
  rw [List.zipIdx_append, List.foldl_append]
  simp
theorem most_take {bs : Bins} {k : Nat} {b : Bin} (h : bs[k]? = some b) : most (bs.take (k + 1)) = if (most (bs.take k)).2 < b.items.length then (k, b.items.length) else most (bs.take k) := by
  have hk := (List.getElem?_eq_some_iff.1 h).1
  rw [List.take_add_one, h]
  show most (bs.take k ++ [b]) = _
  rw [most_snoc, List.length_take, Nat.min_eq_left (by omega)]
theorem tot_take {bs : Bins} {k : Nat} {b : Bin} (h : bs[k]? = some b) : tot (bs.take (k + 1)) = tot (bs.take k) + b.items.length := by
  rw [List.take_add_one, h]
  show tot (bs.take k ++ [b]) = _
  simp [tot]
theorem most_le {c : Nat} {bs : Bins} (h : ∀ b ∈ bs, b.items.length ≤ c) : ∀ k, k ≤ bs.length → (most (bs.take k)).2 ≤ c ∧ (most (bs.take k)).1 ≤ k
  | 0, _ => by simp [most]
  | k + 1, hk => by
    have ih := most_le h k (by omega)
    have hb : bs[k]? = some bs[k] := List.getElem?_eq_getElem (by omega)
    have hc := h bs[k] (List.getElem_mem _)
    rw [most_take hb]
    split
    · exact ⟨hc, by simp⟩
    · exact ⟨ih.1, by omega⟩
theorem tot_le {c : Nat} : ∀ (bs : Bins), (∀ b ∈ bs, b.items.length ≤ c) → tot bs ≤ bs.length * c
  | [], _ => by simp [tot]
  | b :: bs, h => by
    have := tot_le bs (fun x hx => h x (List.mem_cons_of_mem _ hx))
    have hb := h b (by simp)
    simp only [tot, List.map_cons, List.sum_cons, List.length_cons] at this ⊢
    rw [Nat.add_mul]
    omega

theorem putAt_len (bs : Bins) (i : Nat) (k x : Bs) : (putAt bs i k x).length = bs.length := by simp [putAt]
theorem putAt_get {bs : Bins} {i j : Nat} {k x : Bs} : (putAt bs i k x)[j]? = if i = j then bs[j]?.map (fun b => ⟨k, b.items ++ [x]⟩) else bs[j]? := by
  unfold putAt
  rw [List.getElem?_modify]
  split
  · rfl
  · cases bs[j]? <;> rfl
theorem putAt_ok {c : Nat} {bs : Bins} (h : BOk c bs) {i : Nat} {b : Bin} (hi : bs[i]? = some b) (hl : b.items.length < c) (k x : Bs) : BOk c (putAt bs i k x) := by
  have key : ∀ y ∈ putAt bs i k x, y.items.length ≤ c ∧ (y.items = [] → y.key = nul) := by
    intro y hy
    obtain ⟨j, hj⟩ := List.getElem?_of_mem hy
    rw [putAt_get] at hj
    split at hj
    · rename_i e
      subst e
      rw [hi] at hj
      simp only [Option.map_some, Option.some.injEq] at hj
      subst hj
      exact ⟨by simp; omega, fun e => by simp at e⟩
    · have hm := List.mem_of_getElem? hj
      exact ⟨h.le y hm, h.nk y hm⟩
  exact ⟨h.c1, h.c2, by rw [putAt_len]; exact h.n1, by rw [putAt_len]; exact h.n2, fun y hy => (key y hy).1, fun y hy => (key y hy).2⟩
theorem set_ok {c : Nat} {bs : Bins} (h : BOk c bs) (i : Nat) : BOk c (bs.set i ⟨nul, []⟩) := by
  have key : ∀ y ∈ bs.set i ⟨nul, []⟩, y.items.length ≤ c ∧ (y.items = [] → y.key = nul) := by
    intro y hy
    rcases List.mem_or_eq_of_mem_set hy with hm | e
    · exact ⟨h.le y hm, h.nk y hm⟩
    · subst e; exact ⟨Nat.zero_le _, fun _ => rfl⟩
  exact ⟨h.c1, h.c2, by rw [List.length_set]; exact h.n1, by rw [List.length_set]; exact h.n2, fun y hy => (key y hy).1, fun y hy => (key y hy).2⟩
theorem sPut_cases {c : Nat} {bs : Bins} (h : BOk c bs) (k x : Bs) :
    (∃ e, sPut c bs k x = (bs, 0, e)) ∨ ∃ i b, bs[i]? = some b ∧ b.items.length < c ∧ sPut c bs k x = (putAt bs i k x, i, 0) := by
  unfold sPut
  split
  · exact .inl ⟨_, rfl⟩
  · split
    · exact .inl ⟨_, rfl⟩
    · split
      · rename_i i hf
        obtain ⟨b, hb, hp, _⟩ := fnd_some hf
        refine .inr ⟨i, b, hb, ?_, rfl⟩
        unfold pKey at hp
        simp at hp
        omega
      · split
        · rename_i i hf
          obtain ⟨b, hb, hp, _⟩ := fnd_some hf
          refine .inr ⟨i, b, hb, ?_, rfl⟩
          unfold pEmpty at hp
          simp at hp
          have := h.c1
          rw [hp]
          simp
          omega
        · exact .inl ⟨_, rfl⟩
theorem sPut_ok {c : Nat} {bs : Bins} (h : BOk c bs) (k x : Bs) : BOk c (sPut c bs k x).1 := by
  rcases sPut_cases h k x with ⟨e, he⟩ | ⟨i, b, hb, hl, he⟩
  · rw [he]; exact h
  · rw [he]; exact putAt_ok h hb hl k x
theorem sTake_ok {c : Nat} {bs : Bins} (h : BOk c bs) (i : Int) : BOk c (sTake bs i).1 := by
  unfold sTake
  split
  · exact h
  · split
    · exact h
    · split
      · exact h
      · exact set_ok h _

end Go.Proofs.Yteokognbnilkmaa
