/-
  The plain law of a mass balance account: sums over periods. No program in sight.
-/
import Derived.Test.YtpapgldjmglaiaaBase
namespace Go.Proofs.Ytpapgldjmglaiaa

/-- The sum of f over n periods from lo on. -/
def rs (f : Int → Int) (lo : Int) : Nat → Int
  | 0 => 0
  | n + 1 => rs f lo n + f (lo + n)

theorem rs_congr {f g : Int → Int} {lo : Int} : ∀ {n : Nat}, (∀ i : Nat, i < n → f (lo + i) = g (lo + i)) → rs f lo n = rs g lo n
  | 0, _ => rfl
  | n + 1, h => by
    unfold rs
    rw [rs_congr (n := n) (fun i hi => h i (by omega)), h n (by omega)]
theorem rs_split (f : Int → Int) (lo : Int) (m : Nat) : ∀ n : Nat, rs f lo (m + n) = rs f lo m + rs f (lo + m) n
  | 0 => by simp [rs]
  | n + 1 => by
    rw [← Nat.add_assoc]
    show rs f lo (m + n) + f (lo + ((m + n : Nat) : Int)) = rs f lo m + (rs f (lo + m) n + f (lo + m + n))
    rw [rs_split f lo m n, show lo + ((m + n : Nat) : Int) = lo + m + n by omega]
    omega
theorem rs_nonneg {f : Int → Int} (h : ∀ p, 0 ≤ f p) (lo : Int) : ∀ n : Nat, 0 ≤ rs f lo n
  | 0 => by simp [rs]
  | n + 1 => by unfold rs; have := rs_nonneg h lo n; have := h (lo + n); omega
theorem rs_zero {f : Int → Int} {lo : Int} : ∀ {n : Nat}, (∀ i : Nat, i < n → f (lo + i) = 0) → rs f lo n = 0
  | 0, _ => rfl
  | n + 1, h => by
    unfold rs
    rw [rs_zero (n := n) (fun i hi => h i (by omega)), h n (by omega)]
    rfl
theorem rs_mono {f : Int → Int} (h : ∀ p, 0 ≤ f p) (lo : Int) {m n : Nat} (hmn : m ≤ n) : rs f lo m ≤ rs f lo n := by
  obtain ⟨d, rfl⟩ := Nat.exists_eq_add_of_le hmn
  rw [rs_split]
  have := rs_nonneg h (lo + m) d
  omega
/-- A window inside another. -/
theorem rs_sub {f : Int → Int} (h : ∀ p, 0 ≤ f p) {lo A : Int} {n M : Nat} (h1 : A ≤ lo) (h2 : lo + n ≤ A + M) : rs f lo n ≤ rs f A M := by
  obtain ⟨d, hd⟩ : ∃ d : Nat, lo = A + d := ⟨(lo - A).toNat, by omega⟩
  subst hd
  obtain ⟨e, he⟩ : ∃ e : Nat, M = d + n + e := ⟨M - (d + n), by omega⟩
  subst he
  rw [rs_split f A (d + n) e, rs_split f A d n]
  have := rs_nonneg h A d
  have := rs_nonneg h (A + ((d + n : Nat) : Int)) e
  omega
/-- A window that holds all there is. -/
theorem rs_all {f : Int → Int} {T : Int} (hs : ∀ p, f p ≠ 0 → 0 ≤ p ∧ p ≤ T) (hT : -1 ≤ T) {A : Int} {M : Nat} (h1 : A ≤ 0) (h2 : T < A + M) : rs f A M = rs f 0 (T + 1).toNat := by
  have z : ∀ p, ¬ (0 ≤ p ∧ p ≤ T) → f p = 0 := fun p hp => Classical.byContradiction fun hne => hp (hs p hne)
  obtain ⟨d, hd⟩ : ∃ d : Nat, A = -(d : Int) := ⟨(-A).toNat, by omega⟩
  subst hd
  obtain ⟨t, ht⟩ : ∃ t : Nat, T + 1 = t := ⟨(T + 1).toNat, by omega⟩
  have ht' : (T + 1).toNat = t := by omega
  obtain ⟨e, he⟩ : ∃ e : Nat, M = d + t + e := ⟨M - (d + t), by omega⟩
  subst he
  rw [ht', rs_split f _ (d + t) e, rs_split f _ d t, rs_zero (n := d) (fun i hi => z _ (by omega)), rs_zero (n := e) (fun i hi => z _ (by omega)), show -(d : Int) + d = 0 by omega]
  omega
theorem rs_le_total {f : Int → Int} (h : ∀ p, 0 ≤ f p) {T : Int} (hs : ∀ p, f p ≠ 0 → 0 ≤ p ∧ p ≤ T) (hT : -1 ≤ T) (lo : Int) (n : Nat) : rs f lo n ≤ rs f 0 (T + 1).toNat := by
  have e := rs_all hs hT (A := min lo 0) (M := ((max (lo + n) (T + 1)) - min lo 0).toNat) (by omega) (by omega)
  rw [← e]
  exact rs_sub h (by omega) (by omega)

/-- The account. -/
structure Ac where
  F : Int
  P : Int
  T : Int
  cr : Int
  cl : Int
  f : Int → Int

def Ac.isP (per : Int) : Bool := decide (0 ≤ per ∧ per ≤ 1000000)
def Ac.left (a : Ac) (per : Int) : Int := if Ac.isP per then rs a.f (per - a.P + 1) a.P.toNat else 0
def Ac.expired (a : Ac) (per : Int) : Int := if Ac.isP per then rs a.f 0 (per - a.P + 1).toNat else 0
def Ac.check (a : Ac) (per vol : Int) : Int := if ¬ Ac.isP per ∨ per < a.T then 15 else if vol < 0 ∨ vol > 1125899906842624 then 9 else 0
/-- f with n more at a period. -/
def addAt (f : Int → Int) (per n : Int) : Int → Int := fun q => if q = per then f q + n else f q
/-- f less V, from the periods from lo on, the oldest first. -/
def drain (f : Int → Int) (lo : Int) (N : Nat) (V : Int) : Int → Int := fun q =>
  if lo ≤ q ∧ q < lo + N then f q - (min V (rs f lo ((q - lo).toNat + 1)) - min V (rs f lo (q - lo).toNat)) else f q
def Ac.credit (a : Ac) (per vol : Int) : Ac × Int :=
  if a.check per vol ≠ 0 then (a, a.check per vol) else ({ a with T := per, f := addAt a.f per (vol * a.F / 1000), cr := a.cr + vol * a.F / 1000 }, 0)
def Ac.claim (a : Ac) (per vol : Int) : Ac × Int :=
  if a.check per vol ≠ 0 then (a, a.check per vol) else if vol > a.left per then (a, 23)
  else ({ a with T := per, f := drain a.f (per - a.P + 1) a.P.toNat vol, cl := a.cl + vol }, 0)

/-- What holds of every account behind at most K calls. -/
structure Ac.Ok (a : Ac) (K : Nat) : Prop where
  f1 : 0 ≤ a.F
  f2 : a.F ≤ 1000
  p1 : 1 ≤ a.P
  p2 : a.P ≤ 24
  t1 : -1 ≤ a.T
  t2 : a.T ≤ 1000000
  nn : ∀ p, 0 ≤ a.f p
  sp : ∀ p, a.f p ≠ 0 → 0 ≤ p ∧ p ≤ a.T
  c0 : 0 ≤ a.cl
  tot : rs a.f 0 (a.T + 1).toNat = a.cr - a.cl
  c1 : a.cr ≤ 1125899906842624 * K
  kk : K ≤ 200

theorem Ac.Ok.bd {a : Ac} {K : Nat} (h : a.Ok K) (lo : Int) (n : Nat) : 0 ≤ rs a.f lo n ∧ rs a.f lo n ≤ 225179981368524800 := by
  have h1 := rs_nonneg h.nn lo n
  have h2 := rs_le_total h.nn h.sp h.t1 lo n
  have h3 := h.tot
  have h4 := h.c0
  have h5 := h.c1
  have h6 := h.kk
  exact ⟨h1, by omega⟩
theorem Ac.Ok.one {a : Ac} {K : Nat} (h : a.Ok K) (p : Int) : 0 ≤ a.f p ∧ a.f p ≤ 225179981368524800 := by
  have := h.bd p 1
  simpa [rs] using this

theorem addAt_rs {f : Int → Int} {per n lo : Int} : ∀ m : Nat, rs (addAt f per n) lo m = rs f lo m + if lo ≤ per ∧ per < lo + m then n else 0
  | 0 => by simp only [rs]; rw [if_neg (by omega)]; rfl
  | m + 1 => by
    unfold rs
    rw [addAt_rs m]
    unfold addAt
    by_cases h : lo + (m : Int) = per
    · rw [if_neg (by omega), if_pos h, if_pos (by omega)]; omega
    · rw [if_neg h]
      by_cases h2 : lo ≤ per ∧ per < lo + m
      · rw [if_pos h2, if_pos (by omega)]; omega
      · rw [if_neg h2, if_neg (by omega)]; omega

theorem drain_rs {f : Int → Int} {lo : Int} {N : Nat} {V : Int} : ∀ m : Nat, m ≤ N → rs (drain f lo N V) lo m = rs f lo m - min V (rs f lo m) + min V 0
  | 0, _ => by simp only [rs]; omega
  | m + 1, h => by
    unfold rs
    rw [drain_rs m (by omega)]
    unfold drain
    rw [if_pos (by omega), show (lo + (m : Int) - lo).toNat = m by omega]
    simp only [rs]
    omega
theorem drain_le {f : Int → Int} (h : ∀ p, 0 ≤ f p) {lo : Int} {N : Nat} {V : Int} (q : Int) : 0 ≤ drain f lo N V q ∧ drain f lo N V q ≤ f q := by
  unfold drain
  split
  · rename_i hq
    have e : rs f lo ((q - lo).toNat + 1) = rs f lo (q - lo).toNat + f q := by
      conv => lhs; unfold rs
      rw [show lo + ((q - lo).toNat : Int) = q by omega]
    rw [e]
    have := h q
    omega
  · exact ⟨h q, Int.le_refl _⟩

theorem mul_div_bd {vol F : Int} (h1 : 0 ≤ vol) (h2 : vol ≤ 1125899906842624) (f1 : 0 ≤ F) (f2 : F ≤ 1000) : 0 ≤ vol * F ∧ vol * F ≤ 1125899906842624000 ∧ 0 ≤ vol * F / 1000 ∧ vol * F / 1000 ≤ 1125899906842624 := by
  have a1 : 0 ≤ vol * F := Int.mul_nonneg h1 f1
  have a2 : vol * F ≤ vol * 1000 := Int.mul_le_mul_of_nonneg_left f2 h1
  refine ⟨a1, by omega, by omega, by omega⟩

theorem check_zero {a : Ac} {per vol : Int} (h : ¬ a.check per vol ≠ 0) : 0 ≤ per ∧ per ≤ 1000000 ∧ a.T ≤ per ∧ 0 ≤ vol ∧ vol ≤ 1125899906842624 := by
  unfold Ac.check Ac.isP at h
  split at h
  · simp at h
  · split at h
    · simp at h
    · rename_i h1 h2
      simp at h1
      omega

theorem Ac.credit_ok {a : Ac} {K : Nat} (h : a.Ok K) (hK : K + 1 ≤ 200) (per vol : Int) : (a.credit per vol).1.Ok (K + 1) := by
  unfold Ac.credit
  have := h.c1
  split
  · exact ⟨h.f1, h.f2, h.p1, h.p2, h.t1, h.t2, h.nn, h.sp, h.c0, h.tot, by show a.cr ≤ _; omega, hK⟩
  · rename_i hc
    obtain ⟨q1, q2, q3, q4, q5⟩ := check_zero hc
    obtain ⟨m1, m2, m3, m4⟩ := mul_div_bd q4 q5 h.f1 h.f2
    have t1 := h.t1
    refine ⟨h.f1, h.f2, h.p1, h.p2, by show -1 ≤ per; omega, q2, ?_, ?_, h.c0, ?_, by show a.cr + _ ≤ _; omega, hK⟩
    · intro p
      have := h.nn p
      simp only [addAt]
      split <;> omega
    · intro p hp
      simp only [addAt] at hp
      show 0 ≤ p ∧ p ≤ per
      split at hp
      · omega
      · have := h.sp p hp
        omega
    · show rs (addAt a.f per (vol * a.F / 1000)) 0 (per + 1).toNat = a.cr + vol * a.F / 1000 - a.cl
      rw [addAt_rs, if_pos (by omega), rs_all h.sp h.t1 (A := 0) (by omega) (by omega), h.tot]
      omega

theorem Ac.claim_ok {a : Ac} {K : Nat} (h : a.Ok K) (hK : K + 1 ≤ 200) (per vol : Int) : (a.claim per vol).1.Ok (K + 1) := by
  unfold Ac.claim
  have c1 := h.c1
  have same : a.Ok (K + 1) := ⟨h.f1, h.f2, h.p1, h.p2, h.t1, h.t2, h.nn, h.sp, h.c0, h.tot, by omega, hK⟩
  split
  · exact same
  · split
    · exact same
    · rename_i hc hq
      obtain ⟨q1, q2, q3, q4, q5⟩ := check_zero hc
      have t1 := h.t1
      have p1 := h.p1
      have c0 := h.c0
      have hl : a.left per = rs a.f (per - a.P + 1) a.P.toNat := by
        unfold Ac.left Ac.isP
        rw [if_pos (by simp; omega)]
      rw [hl] at hq
      have dle := fun q => drain_le h.nn (lo := per - a.P + 1) (N := a.P.toNat) (V := vol) q
      have dsp : ∀ p, drain a.f (per - a.P + 1) a.P.toNat vol p ≠ 0 → 0 ≤ p ∧ p ≤ per := by
        intro p hp
        have := dle p
        have := h.sp p (by omega)
        omega
      refine ⟨h.f1, h.f2, h.p1, h.p2, by show -1 ≤ per; omega, q2, fun p => (dle p).1, dsp, by show 0 ≤ a.cl + vol; omega, ?_, by show a.cr ≤ _; omega, hK⟩
      show rs (drain a.f (per - a.P + 1) a.P.toNat vol) 0 (per + 1).toNat = a.cr - (a.cl + vol)
      -- one window that holds all, parted at per - P + 1
      have e1 := rs_all dsp (by omega) (A := -100) (M := 100 + (per + 1).toNat) (by omega) (by omega)
      have e2 := rs_all (T := a.T) h.sp h.t1 (A := -100) (M := 100 + (per + 1).toNat) (by omega) (by omega)
      have p2 := h.p2
      obtain ⟨d, hd⟩ : ∃ d : Nat, 100 + (per + 1).toNat = d + a.P.toNat ∧ (-100 : Int) + d = per - a.P + 1 := ⟨100 + (per + 1).toNat - a.P.toNat, by omega, by omega⟩
      rw [hd.1, rs_split, hd.2, drain_rs _ (Nat.le_refl _), rs_congr (g := a.f) (fun i hi => by unfold drain; rw [if_neg (by omega)])] at e1
      rw [hd.1, rs_split, hd.2, h.tot] at e2
      rw [← e1]
      omega

theorem ok_new {F P : Int} (f1 : 0 ≤ F) (f2 : F ≤ 1000) (p1 : 1 ≤ P) (p2 : P ≤ 24) : Ac.Ok ⟨F, P, -1, 0, 0, fun _ => 0⟩ 0 :=
  ⟨f1, f2, p1, p2, by show (-1 : Int) ≤ -1; omega, by show (-1 : Int) ≤ 1000000; omega, fun _ => Int.le_refl _, fun _ h => absurd rfl h, Int.le_refl _, rfl, by simp, by omega⟩

end Go.Proofs.Ytpapgldjmglaiaa
