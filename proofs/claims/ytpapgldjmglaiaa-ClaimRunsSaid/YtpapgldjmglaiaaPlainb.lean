/-
  The reference's list of credits in plain words: what is left, what has expired, a claim.
-/
import Derived.Test.YtpapgldjmglaiaaPlain
namespace Go.Proofs.Ytpapgldjmglaiaa

abbrev Cr := Int × Int
/-- What a list of credits holds at each period. -/
def fsum : List Cr → Int → Int
  | [] => fun _ => 0
  | e :: l => addAt (fsum l) e.1 e.2
/-- The sum of the credits whose period has a mark. -/
def sumW (p : Int → Bool) : List Cr → Int
  | [] => 0
  | e :: l => (if p e.1 then e.2 else 0) + sumW p l
theorem sumW_append (p : Int → Bool) : ∀ a b : List Cr, sumW p (a ++ b) = sumW p a + sumW p b
  | [], b => by simp [sumW]
  | e :: a, b => by
    rw [List.cons_append, sumW, sumW, sumW_append p a b]
    omega
theorem sumW_nonneg {p : Int → Bool} : ∀ {l : List Cr}, (∀ e ∈ l, 0 ≤ e.2) → 0 ≤ sumW p l
  | [], _ => by simp [sumW]
  | e :: l, h => by
    have h1 := h e (by simp)
    have h2 := sumW_nonneg (p := p) (l := l) (fun e' he => h e' (by simp [he]))
    unfold sumW
    split <;> omega
theorem sumW_le_all {p : Int → Bool} : ∀ {l : List Cr}, (∀ e ∈ l, 0 ≤ e.2) → sumW p l ≤ sumW (fun _ => true) l
  | [], _ => by simp [sumW]
  | e :: l, h => by
    have h1 := h e (by simp)
    have h2 := sumW_le_all (p := p) (l := l) (fun e' he => h e' (by simp [he]))
    unfold sumW
    simp only [if_true]
    split <;> omega
theorem sumW_take {p : Int → Bool} {l : List Cr} (h : ∀ e ∈ l, 0 ≤ e.2) (k : Nat) : sumW p (l.take k) ≤ sumW p l := by
  have e := sumW_append p (l.take k) (l.drop k)
  rw [List.take_append_drop] at e
  have := sumW_nonneg (p := p) (l := l.drop k) (fun e he => h e (List.mem_of_mem_drop he))
  omega
theorem sumW_snoc {p : Int → Bool} {l : List Cr} {k : Nat} {e : Cr} (h : l[k]? = some e) : sumW p (l.take (k + 1)) = sumW p (l.take k) + if p e.1 then e.2 else 0 := by
  rw [List.take_add_one, h, sumW_append]
  simp [sumW]
theorem sumW_congr {p q : Int → Bool} : ∀ {l : List Cr}, (∀ e ∈ l, p e.1 = q e.1) → sumW p l = sumW q l
  | [], _ => rfl
  | e :: l, h => by
    unfold sumW
    rw [h e (by simp), sumW_congr (l := l) (fun e' he => h e' (by simp [he]))]
theorem sumW_rs (lo : Int) (N : Nat) : ∀ l : List Cr, sumW (fun q => decide (lo ≤ q ∧ q < lo + N)) l = rs (fsum l) lo N
  | [] => by
    unfold sumW fsum
    exact (rs_zero (fun _ _ => rfl)).symm
  | e :: l => by
    unfold sumW fsum
    rw [addAt_rs, sumW_rs lo N l]
    by_cases h : lo ≤ e.1 ∧ e.1 < lo + N
    · rw [if_pos (by simpa using h), if_pos h]; omega
    · rw [if_neg (by simpa using h), if_neg h]; omega
theorem sumW_none {p : Int → Bool} : ∀ {l : List Cr}, (∀ e ∈ l, p e.1 = false) → sumW p l = 0
  | [], _ => rfl
  | e :: l, h => by
    unfold sumW
    rw [h e (by simp), sumW_none (l := l) (fun e' he => h e' (by simp [he]))]
    simp

/-- A credit counts as left, as expired. -/
def wl (per P q : Int) : Bool := decide (0 ≤ per) && decide (per ≤ 1000000) && decide (q ≤ per) && decide (per < q + P)
def we (per P q : Int) : Bool := decide (0 ≤ per) && decide (per ≤ 1000000) && decide (q + P ≤ per)
/-- A list of credits that answers to an account. -/
structure RL (a : Ac) (l : List Cr) : Prop where
  f : a.f = fsum l
  so : l.Pairwise (fun x y => x.1 ≤ y.1)
  nn : ∀ e ∈ l, 0 ≤ e.2
  lo : ∀ e ∈ l, 0 ≤ e.1 ∧ e.1 ≤ a.T
theorem RL.left {a : Ac} {l : List Cr} {K : Nat} (h : RL a l) (ok : a.Ok K) (per : Int) : sumW (wl per a.P) l = a.left per := by
  unfold Ac.left Ac.isP
  have p1 := ok.p1
  by_cases hp : 0 ≤ per ∧ per ≤ 1000000
  · rw [if_pos (by simpa using hp), h.f, ← sumW_rs]
    refine sumW_congr fun e _ => ?_
    rw [Bool.eq_iff_iff]
    simp [wl, hp.1, hp.2]
    omega
  · rw [if_neg (by simpa using hp)]
    refine sumW_none fun e _ => ?_
    simp only [wl]
    by_cases h0 : 0 ≤ per
    · have : ¬ per ≤ 1000000 := fun h1 => hp ⟨h0, h1⟩
      simp [this]
    · simp [h0]
theorem RL.expired {a : Ac} {l : List Cr} (h : RL a l) (per : Int) : sumW (we per a.P) l = a.expired per := by
  unfold Ac.expired Ac.isP
  by_cases hp : 0 ≤ per ∧ per ≤ 1000000
  · rw [if_pos (by simpa using hp), h.f, ← sumW_rs]
    refine sumW_congr fun e he => ?_
    have := (h.lo e he).1
    rw [Bool.eq_iff_iff]
    simp [we, hp.1, hp.2]
    omega
  · rw [if_neg (by simpa using hp)]
    refine sumW_none fun e _ => ?_
    simp only [we]
    by_cases h0 : 0 ≤ per
    · have : ¬ per ≤ 1000000 := fun h1 => hp ⟨h0, h1⟩
      simp [this]
    · simp [h0]
theorem RL.all {a : Ac} {l : List Cr} {K : Nat} (h : RL a l) (ok : a.Ok K) : sumW (fun _ => true) l ≤ 225179981368524800 := by
  have e : sumW (fun _ => true) l = rs (fsum l) 0 (a.T + 1).toNat := by
    rw [← sumW_rs]
    refine sumW_congr fun e he => ?_
    have := h.lo e he
    have t1 := ok.t1
    symm
    simp only [decide_eq_true_eq]
    omega
  rw [e, ← h.f]
  exact (ok.bd 0 _).2
theorem RL.bd {a : Ac} {l : List Cr} {K : Nat} (h : RL a l) (ok : a.Ok K) (p : Int → Bool) (k : Nat) : 0 ≤ sumW p (l.take k) ∧ sumW p (l.take k) ≤ 225179981368524800 :=
  ⟨sumW_nonneg fun e he => h.nn e (List.mem_of_mem_take he), Int.le_trans (sumW_take h.nn k) (Int.le_trans (sumW_le_all h.nn) (h.all ok))⟩
theorem RL.one {a : Ac} {l : List Cr} {K : Nat} (h : RL a l) (ok : a.Ok K) {k : Nat} {e : Cr} (he : l[k]? = some e) : 0 ≤ e.2 ∧ e.2 ≤ 225179981368524800 := by
  have h1 := h.bd ok (fun _ => true) k
  have h2 := h.bd ok (fun _ => true) (k + 1)
  rw [sumW_snoc he] at h2
  simp only [if_true] at h2
  exact ⟨h.nn e (List.mem_of_getElem? he), by omega⟩

/-! ### A credit -/
theorem addAt_comm (f : Int → Int) (p n q m : Int) : addAt (addAt f p n) q m = addAt (addAt f q m) p n := by
  funext x
  unfold addAt
  split <;> split <;> omega
theorem fsum_snoc (p n : Int) : ∀ l : List Cr, fsum (l ++ [(p, n)]) = addAt (fsum l) p n
  | [] => rfl
  | e :: l => by
    rw [List.cons_append, fsum, fsum_snoc p n l, addAt_comm]
    rfl
theorem RL.credit {a : Ac} {l : List Cr} {per n : Int} {cr : Int} (h : RL a l) (h0 : 0 ≤ per) (hT : a.T ≤ per) (hn : 0 ≤ n) : RL { a with T := per, f := addAt a.f per n, cr := cr } (l ++ [(per, n)]) := by
  refine ⟨?_, ?_, fun e he => ?_, fun e he => ?_⟩
  · show addAt a.f per n = _
    rw [fsum_snoc, h.f]
  · rw [List.pairwise_append]
    refine ⟨h.so, by simp, fun x hx y hy => ?_⟩
    simp at hy
    subst hy
    have := (h.lo x hx).2
    show x.1 ≤ per
    omega
  · rcases List.mem_append.1 he with he | he
    · exact h.nn e he
    · simp at he; subst he; exact hn
  · show 0 ≤ e.1 ∧ e.1 ≤ per
    rcases List.mem_append.1 he with he | he
    · have := h.lo e he; omega
    · simp at he; subst he; exact ⟨h0, Int.le_refl _⟩

/-! ### A claim -/
/-- The list behind a claim of V; what is still to be claimed. -/
def drl (lo V : Int) : List Cr → List Cr
  | [] => []
  | e :: l => if lo ≤ e.1 then (e.1, e.2 - min V e.2) :: drl lo (V - min V e.2) l else e :: drl lo V l
def drest (lo V : Int) : List Cr → Int
  | [] => V
  | e :: l => if lo ≤ e.1 then drest lo (V - min V e.2) l else drest lo V l
theorem fsum_zero : ∀ {l : List Cr} {q : Int}, (∀ e ∈ l, q < e.1) → fsum l q = 0
  | [], _, _ => rfl
  | e :: l, q, h => by
    unfold fsum addAt
    rw [if_neg (by have := h e (by simp); omega)]
    exact fsum_zero (fun e' he => h e' (by simp [he]))
theorem fsum_nonneg : ∀ {l : List Cr}, (∀ e ∈ l, 0 ≤ e.2) → ∀ q, 0 ≤ fsum l q
  | [], _, _ => by simp [fsum]
  | e :: l, h, q => by
    have h1 := h e (by simp)
    have h2 := fsum_nonneg (l := l) (fun e' he => h e' (by simp [he])) q
    unfold fsum addAt
    split <;> omega
theorem drain_congr {f g : Int → Int} {lo : Int} {N : Nat} {V q : Int} (h : ∀ x, lo ≤ x → f x = g x) (hq : lo ≤ q) : drain f lo N V q = drain g lo N V q := by
  have hr : ∀ m : Nat, rs f lo m = rs g lo m := fun m => rs_congr fun i _ => h _ (by omega)
  unfold drain
  rw [hr, hr, h q hq]
theorem fsum_drl (lo : Int) (N : Nat) : ∀ (l : List Cr) (V : Int), 0 ≤ V → l.Pairwise (fun x y => x.1 ≤ y.1) → (∀ e ∈ l, 0 ≤ e.2) → (∀ e ∈ l, e.1 < lo + N) → ∀ q, fsum (drl lo V l) q = drain (fsum l) lo N V q
  | [], V, hV, _, _, _, q => by
    unfold drl fsum drain
    have hr : ∀ m : Nat, rs (fun _ : Int => (0 : Int)) lo m = 0 := fun m => rs_zero fun _ _ => rfl
    rw [hr, hr]
    split <;> simp
  | (p, x) :: l, V, hV, hs, hn, hl, q => by
    rw [List.pairwise_cons] at hs
    have hx : 0 ≤ x := hn (p, x) (by simp)
    have hp : p < lo + N := hl (p, x) (by simp)
    have hn' : ∀ e ∈ l, 0 ≤ e.2 := fun e he => hn e (by simp [he])
    have hl' : ∀ e ∈ l, e.1 < lo + N := fun e he => hl e (by simp [he])
    by_cases hlo : lo ≤ p
    · have ih := fsum_drl lo N l (V - min V x) (by omega) hs.2 hn' hl' q
      have e1 : fsum (drl lo V ((p, x) :: l)) = addAt (fsum (drl lo (V - min V x) l)) p (x - min V x) := by
        rw [drl, if_pos hlo]
        rfl
      rw [e1]
      have e2 : fsum ((p, x) :: l) = addAt (fsum l) p x := rfl
      rw [e2]
      have hnl : ∀ q', 0 ≤ fsum l q' := fsum_nonneg hn'
      have hz : ∀ q', q' < p → fsum l q' = 0 := fun q' hq' => fsum_zero fun e he => by have := hs.1 e he; simp only at this; omega
      have g1 : addAt (fsum (drl lo (V - min V x) l)) p (x - min V x) q = if q = p then fsum (drl lo (V - min V x) l) q + (x - min V x) else fsum (drl lo (V - min V x) l) q := rfl
      have g2 : addAt (fsum l) p x q = if q = p then fsum l q + x else fsum l q := rfl
      rw [g1]
      by_cases hqw : lo ≤ q ∧ q < lo + N
      · unfold drain at *
        rw [if_pos hqw] at ih ⊢
        have r1 := addAt_rs (f := fsum l) (per := p) (n := x) (lo := lo) ((q - lo).toNat + 1)
        have r2 := addAt_rs (f := fsum l) (per := p) (n := x) (lo := lo) (q - lo).toNat
        rw [r1, r2, g2]
        have n1 := rs_nonneg hnl lo (q - lo).toNat
        have n2 : rs (fsum l) lo ((q - lo).toNat + 1) = rs (fsum l) lo (q - lo).toNat + fsum l q := by
          conv => lhs; unfold rs
          rw [show lo + ((q - lo).toNat : Int) = q by omega]
        have n3 := hnl q
        rw [n2] at ih ⊢
        rcases Int.lt_trichotomy q p with hqp | hqp | hqp
        · have z1 : rs (fsum l) lo (q - lo).toNat = 0 := rs_zero fun i hi => hz _ (by omega)
          have z2 := hz q hqp
          rw [if_neg (by omega), ih, if_neg (by omega), if_neg (by omega), if_neg (by omega), z1, z2]
          omega
        · subst hqp
          have z1 : rs (fsum l) lo (q - lo).toNat = 0 := rs_zero fun i hi => hz _ (by omega)
          rw [if_pos rfl, ih, if_pos rfl, if_pos (by omega), if_neg (by omega), z1]
          omega
        · rw [if_neg (by omega), ih, if_neg (by omega), if_pos (by omega), if_pos (by omega)]
          omega
      · unfold drain at *
        rw [if_neg hqw] at ih ⊢
        rw [g2]
        by_cases hqp : q = p
        · subst hqp; omega
        · rw [if_neg hqp, if_neg hqp, ih]
    · have ih := fsum_drl lo N l V hV hs.2 hn' hl' q
      have e1 : fsum (drl lo V ((p, x) :: l)) = addAt (fsum (drl lo V l)) p x := by
        rw [drl, if_neg hlo]
        rfl
      have e2 : fsum ((p, x) :: l) = addAt (fsum l) p x := rfl
      rw [e1, e2]
      by_cases hq : lo ≤ q
      · rw [drain_congr (g := fsum l) (fun y hy => by unfold addAt; rw [if_neg (by omega)]) hq]
        unfold addAt
        rw [if_neg (by omega)]
        exact ih
      · unfold drain at *
        rw [if_neg (by omega)] at ih ⊢
        unfold addAt
        split <;> omega
theorem drl_len (lo : Int) : ∀ (l : List Cr) (V : Int), (drl lo V l).length = l.length
  | [], _ => rfl
  | e :: l, V => by
    unfold drl
    split
    · simp [drl_len lo l]
    · simp [drl_len lo l]
theorem drl_snoc (lo : Int) : ∀ (l : List Cr) (V : Int) (e : Cr), drl lo V (l ++ [e]) = drl lo V l ++ [if lo ≤ e.1 then (e.1, e.2 - min (drest lo V l) e.2) else e] ∧ drest lo V (l ++ [e]) = if lo ≤ e.1 then drest lo V l - min (drest lo V l) e.2 else drest lo V l
  | [], V, e => by
    simp only [List.nil_append, drl, drest]
    split <;> simp
  | a :: l, V, e => by
    simp only [List.cons_append, drl, drest]
    split
    · obtain ⟨h1, h2⟩ := drl_snoc lo l (V - min V a.2) e
      exact ⟨by rw [h1]; rfl, h2⟩
    · obtain ⟨h1, h2⟩ := drl_snoc lo l V e
      exact ⟨by rw [h1]; rfl, h2⟩
theorem drl_mem (lo : Int) : ∀ (l : List Cr) (V : Int), 0 ≤ V → (∀ e ∈ l, 0 ≤ e.2) → (drl lo V l).map Prod.fst = l.map Prod.fst ∧ (∀ e ∈ drl lo V l, 0 ≤ e.2) ∧ 0 ≤ drest lo V l
  | [], V, hV, _ => ⟨rfl, by simp [drl], hV⟩
  | a :: l, V, hV, h => by
    have ha := h a (by simp)
    have h' : ∀ e ∈ l, 0 ≤ e.2 := fun e he => h e (by simp [he])
    unfold drl drest
    split
    · obtain ⟨h1, h2, h3⟩ := drl_mem lo l (V - min V a.2) (by omega) h'
      refine ⟨by simp [h1], fun e he => ?_, h3⟩
      rcases List.mem_cons.1 he with rfl | he
      · show 0 ≤ a.2 - min V a.2
        omega
      · exact h2 e he
    · obtain ⟨h1, h2, h3⟩ := drl_mem lo l V hV h'
      refine ⟨by simp [h1], fun e he => ?_, h3⟩
      rcases List.mem_cons.1 he with rfl | he
      · exact ha
      · exact h2 e he
theorem RL.claim {a : Ac} {l : List Cr} {K : Nat} {per V cl : Int} (h : RL a l) (ok : a.Ok K) (h0 : 0 ≤ per) (hT : a.T ≤ per) (hV : 0 ≤ V) : RL { a with T := per, f := drain a.f (per - a.P + 1) a.P.toNat V, cl := cl } (drl (per - a.P + 1) V l) := by
  have p1 := ok.p1
  obtain ⟨m1, m2, _⟩ := drl_mem (per - a.P + 1) l V hV h.nn
  refine ⟨?_, ?_, m2, fun e he => ?_⟩
  · show drain a.f _ _ _ = _
    funext q
    rw [fsum_drl (per - a.P + 1) a.P.toNat l V hV h.so h.nn (fun e he => by have := (h.lo e he).2; omega) q, h.f]
  · have hp : (l.map Prod.fst).Pairwise (fun x y => x ≤ y) := List.pairwise_map.2 h.so
    rw [← m1] at hp
    exact List.pairwise_map.1 hp
  · show 0 ≤ e.1 ∧ e.1 ≤ per
    have : e.1 ∈ l.map Prod.fst := by rw [← m1]; exact List.mem_map.2 ⟨e, he, rfl⟩
    obtain ⟨e', he', hee⟩ := List.mem_map.1 this
    have := h.lo e' he'
    omega

end Go.Proofs.Ytpapgldjmglaiaa
