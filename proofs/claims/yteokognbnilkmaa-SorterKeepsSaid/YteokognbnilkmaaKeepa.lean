/-
  For SorterKeeps: the plain law of what was put, and rows of structs.
-/
import Derived.Test.YteokognbnilkmaaScript
namespace Go.Proofs.Yteokognbnilkmaa
open Go.RowKit

structure Pt where
  key : Bs
  item : Bs
  bin : Nat
def Pt.ki (p : Pt) : Bs × Bs := (p.key, p.item)
def sel (ps : List Pt) (i : Int) : List Pt := ps.filter fun p => decide ((p.bin : Int) = i)
def rst (ps : List Pt) (i : Int) : List Pt := ps.filter fun p => decide ((p.bin : Int) ≠ i)
theorem sel_take {ps : List Pt} {k : Nat} {p : Pt} (h : ps[k]? = some p) (i : Int) : sel (ps.take (k + 1)) i = if (p.bin : Int) = i then sel (ps.take k) i ++ [p] else sel (ps.take k) i := by
  rw [List.take_add_one, h]
  unfold sel
  by_cases e : (p.bin : Int) = i <;> simp [e]
theorem rst_take {ps : List Pt} {k : Nat} {p : Pt} (h : ps[k]? = some p) (i : Int) : rst (ps.take (k + 1)) i = if (p.bin : Int) = i then rst (ps.take k) i else rst (ps.take k) i ++ [p] := by
  rw [List.take_add_one, h]
  unfold rst
  by_cases e : (p.bin : Int) = i <;> simp [e]
theorem sel_rst_len (ps : List Pt) (i : Int) : (sel ps i).length + (rst ps i).length = ps.length := by
  induction ps with
  | nil => rfl
  | cons p ps ih =>
    unfold sel rst at ih ⊢
    by_cases e : (p.bin : Int) = i
    · simp [e] at ih ⊢; omega
    · simp [e] at ih ⊢; omega
theorem rst_le (ps : List Pt) (i : Int) : (rst ps i).length ≤ ps.length := by unfold rst; exact List.length_filter_le _ _
theorem sel_le (ps : List Pt) (i : Int) : (sel ps i).length ≤ ps.length := by unfold sel; exact List.length_filter_le _ _
/-- The next one of a bin stands where the count says. -/
theorem sel_at {ps : List Pt} {k : Nat} {p : Pt} {i : Int} (h : ps[k]? = some p) (hi : (p.bin : Int) = i) : (sel ps i)[(sel (ps.take k) i).length]? = some p := by
  have e : ps = ps.take (k + 1) ++ ps.drop (k + 1) := (List.take_append_drop _ _).symm
  have e2 : sel ps i = (sel (ps.take k) i ++ [p]) ++ sel (ps.drop (k + 1)) i := by
    conv => lhs; rw [e]
    unfold sel
    rw [List.filter_append]
    congr 1
    have := sel_take h i
    rw [if_pos hi] at this
    exact this
  rw [e2, List.append_assoc, List.getElem?_append_right (Nat.le_refl _)]
  simp

structure Inv (bs : Bins) (ps : List Pt) : Prop where
  lt : ∀ p ∈ ps, p.bin < bs.length
  len : ps.length = tot bs
  fit : ∀ (j : Nat) (b : Bin), bs[j]? = some b → (sel ps j).map Pt.ki = b.items.map fun x => (b.key, x)
theorem inv_new (n : Nat) : Inv (List.replicate n emp) [] := by
  refine ⟨fun p hp => by simp at hp, ?_, fun j b hb => ?_⟩
  · have : tot (List.replicate n emp) = 0 := tot_zero (fun b hb => by rw [List.eq_of_mem_replicate hb]; rfl)
    rw [this]; rfl
  · rw [List.eq_of_mem_replicate (List.mem_of_getElem? hb)]; rfl
theorem put_spec {c : Nat} {bs bs1 : Bins} {i : Nat} {key item : Bs} (h : sPut c bs key item = (bs1, i, 0)) : ∃ b, bs[i]? = some b ∧ bs1 = putAt bs i key item ∧ (b.items = [] ∨ b.key = key) := by
  unfold sPut at h
  split at h
  · cases h
  · split at h
    · cases h
    · split at h
      · rename_i j hf
        cases h
        obtain ⟨b, hb, hp, _⟩ := fnd_some hf
        unfold pKey at hp
        simp at hp
        exact ⟨b, hb, rfl, .inr hp.1⟩
      · split at h
        · rename_i j hf
          cases h
          obtain ⟨b, hb, hp, _⟩ := fnd_some hf
          unfold pEmpty at hp
          simp at hp
          exact ⟨b, hb, rfl, .inl hp⟩
        · cases h
theorem tot_putAt {bs : Bins} {i : Nat} {b : Bin} (hb : bs[i]? = some b) (key item : Bs) : tot (putAt bs i key item) = tot bs + 1 := by
  unfold putAt
  induction bs generalizing i with
  | nil => simp at hb
  | cons a bs ih =>
    cases i with
    | zero =>
      simp at hb
      subst hb
      simp [tot]
      omega
    | succ i =>
      have := ih (i := i) (by simpa using hb)
      simp only [tot, List.modify_succ_cons, List.map_cons, List.sum_cons] at this ⊢
      omega
theorem inv_put {c : Nat} {bs bs1 : Bins} {ps : List Pt} {i : Nat} {key item : Bs} (h : Inv bs ps) (hp : sPut c bs key item = (bs1, i, 0)) : Inv bs1 (ps ++ [⟨key, item, i⟩]) := by
  obtain ⟨b, hb, rfl, hk⟩ := put_spec hp
  have hi := (List.getElem?_eq_some_iff.1 hb).1
  refine ⟨fun p hp => ?_, ?_, fun j b' hb' => ?_⟩
  · rw [putAt_len]
    rcases List.mem_append.1 hp with hp | hp
    · exact h.lt p hp
    · simp at hp; subst hp; exact hi
  · rw [tot_putAt hb, List.length_append, h.len]; rfl
  · rw [putAt_get] at hb'
    unfold sel
    rw [List.filter_append, List.map_append]
    split at hb'
    · rename_i e
      subst e
      rw [hb] at hb'
      simp only [Option.map_some, Option.some.injEq] at hb'
      subst hb'
      have := h.fit i b hb
      unfold sel at this
      rw [this]
      simp only [List.map_append]
      congr 1
      · rcases hk with e | e
        · rw [e]; rfl
        · rw [e]
      · simp [Pt.ki]
    · rename_i e
      have := h.fit j b' hb'
      unfold sel at this
      rw [this]
      have hne : ¬ ((i : Nat) : Int) = (j : Int) := by omega
      simp [hne]
theorem sel_none {bs : Bins} {ps : List Pt} {i : Int} (h : Inv bs ps) (hi : i < 0 ∨ (bs.length : Int) ≤ i) : sel ps i = [] ∧ rst ps i = ps := by
  unfold sel rst
  constructor
  · rw [List.filter_eq_nil_iff]
    intro p hp
    have := h.lt p hp
    simp
    omega
  · rw [List.filter_eq_self]
    intro p hp
    have := h.lt p hp
    simp
    omega
/-- What Take does to what was put: its items are those of the bin, with its key; what is left fits what is left. -/
structure TakeK (bs : Bins) (ps : List Pt) (i : Int) (bs1 : Bins) (k : Bs) (xs : List Bs) (e : Int) : Prop where
  take : sTake bs i = (bs1, k, xs, e)
  fit : (sel ps i).map Pt.ki = xs.map fun x => (k, x)
  code : sel ps i ≠ [] → e = 0
  inv : Inv bs1 (rst ps i)
  len : bs1.length = bs.length
  none_ : ∀ (j : Nat) (b : Bin), bs1[j]? = some b → (∃ b0, bs[j]? = some b0 ∧ b0.items = []) ∨ (j : Int) = i → b.items = []
theorem take_known {bs : Bins} {ps : List Pt} (h : Inv bs ps) (i : Int) : ∃ bs1 k xs e, TakeK bs ps i bs1 k xs e := by
  by_cases h0 : i < 0 ∨ (bs.length : Int) ≤ i
  · obtain ⟨s1, s2⟩ := sel_none h h0
    refine ⟨bs, nul, [], 9, by unfold sTake; rw [if_pos h0], by rw [s1]; rfl, fun hn => absurd s1 hn, by rw [s2]; exact h, rfl, fun j b hb hj => ?_⟩
    have hjl := (List.getElem?_eq_some_iff.1 hb).1
    rcases hj with ⟨b0, e1, e2⟩ | e
    · rw [hb] at e1; cases e1; exact e2
    · omega
  · obtain ⟨n, rfl⟩ : ∃ n : Nat, i = (n : Int) := ⟨i.toNat, by omega⟩
    obtain ⟨b, hb⟩ : ∃ b, bs[n]? = some b := ⟨bs[n]'(by omega), List.getElem?_eq_getElem _⟩
    have e : sTake bs (n : Int) = if b.items = [] then (bs, nul, [], 18) else (bs.set n ⟨nul, []⟩, b.key, b.items, 0) := by
      unfold sTake
      rw [if_neg h0, Int.toNat_natCast, hb]
    have hfit := h.fit n b hb
    by_cases hi : b.items = []
    · have s1 : sel ps n = [] := by rw [hi] at hfit; simpa using hfit
      have s2 : rst ps n = ps := by
        have := sel_rst_len ps n
        rw [s1] at this
        exact List.filter_eq_self.2 (fun p hp => by
          have hns : p ∉ sel ps n := by rw [s1]; simp
          unfold sel at hns
          rw [List.mem_filter] at hns
          simp at hns ⊢
          exact hns hp)
      refine ⟨bs, nul, [], 18, by rw [e, if_pos hi], by rw [s1]; rfl, fun hn => absurd s1 hn, by rw [s2]; exact h, rfl, fun j b' hb' hj => ?_⟩
      rcases hj with ⟨b0, e1, e2⟩ | ej
      · rw [hb'] at e1; cases e1; exact e2
      · have : j = n := by omega
        subst this
        rw [hb] at hb'
        cases hb'
        exact hi
    · have hl : (sel ps n).length = b.items.length := by
        have := congrArg List.length hfit
        simpa using this
      have ht := (tot_mem hb).2
      refine ⟨bs.set n ⟨nul, []⟩, b.key, b.items, 0, by rw [e, if_neg hi], hfit, fun _ => rfl, ⟨fun p hp => ?_, ?_, fun j b' hb' => ?_⟩, by simp, fun j b' hb' hj => ?_⟩
      · rw [List.length_set]
        exact h.lt p (List.mem_filter.1 hp).1
      · have h1 := sel_rst_len ps n
        have h2 := h.len
        omega
      · have hsr : ∀ m : Int, m ≠ n → sel (rst ps n) m = sel ps m := by
          intro m hm
          unfold sel rst
          rw [List.filter_filter]
          apply List.filter_congr
          intro p _
          by_cases e3 : (p.bin : Int) = m
          · have : ¬ (p.bin : Int) = (n : Int) := fun e4 => hm (e3.symm.trans e4)
            simp [e3, hm]
          · simp [e3]
        by_cases ej : n = j
        · subst ej
          have hbb : b' = ⟨nul, []⟩ := by
            rw [List.getElem?_set_self (List.getElem?_eq_some_iff.1 hb).1] at hb'
            exact (Option.some.inj hb').symm
          subst hbb
          have : sel (rst ps n) n = [] := by
            unfold sel rst
            rw [List.filter_filter, List.filter_eq_nil_iff]
            intro p _
            simp
          rw [this]
          rfl
        · rw [List.getElem?_set_ne ej] at hb'
          rw [hsr j (by omega)]
          exact h.fit j b' hb'
      · by_cases ej : n = j
        · subst ej
          rw [List.getElem?_set_self (List.getElem?_eq_some_iff.1 hb).1] at hb'
          cases hb'
          rfl
        · rw [List.getElem?_set_ne ej] at hb'
          rcases hj with ⟨b0, e1, e2⟩ | e3
          · rw [hb'] at e1; cases e1; exact e2
          · omega

/-! ### Rows of structs -/
def cellsP (ps : List Pt) : List Value := ps.flatMap fun p => [.string p.key, .string p.item, .int .i64 p.bin]
def cellsO (xs : List OpD) : List Value := xs.flatMap fun x => [.int .u8 x.kind, .string x.key, .string x.item, .int .i64 x.bin]
theorem cellsP_get : ∀ (s : List Pt) (k : Nat) (e : Pt), s[k]? = some e → (cellsP s)[k * 3]? = some (.string e.key) ∧ (cellsP s)[k * 3 + 1]? = some (.string e.item) ∧ (cellsP s)[k * 3 + 2]? = some (.int .i64 e.bin)
  | [], _, _, h => by simp at h
  | a :: s, 0, e, h => by
    simp at h
    subst h
    simp [cellsP]
  | a :: s, k + 1, e, h => by
    have := cellsP_get s k e (by simpa using h)
    unfold cellsP at this ⊢
    rw [List.flatMap_cons]
    have e1 : (k + 1) * 3 = k * 3 + 3 := by omega
    have e2 : (k + 1) * 3 + 1 = (k * 3 + 1) + 3 := by omega
    have e3 : (k + 1) * 3 + 2 = (k * 3 + 2) + 3 := by omega
    rw [e2, e3, e1]
    simpa using this
theorem cellsO_get : ∀ (s : List OpD) (k : Nat) (e : OpD), s[k]? = some e → (cellsO s)[k * 4]? = some (.int .u8 e.kind) ∧ (cellsO s)[k * 4 + 1]? = some (.string e.key) ∧ (cellsO s)[k * 4 + 2]? = some (.string e.item) ∧ (cellsO s)[k * 4 + 3]? = some (.int .i64 e.bin)
  | [], _, _, h => by simp at h
  | a :: s, 0, e, h => by
    simp at h
    subst h
    simp [cellsO]
  | a :: s, k + 1, e, h => by
    have := cellsO_get s k e (by simpa using h)
    unfold cellsO at this ⊢
    rw [List.flatMap_cons]
    have e1 : (k + 1) * 4 = k * 4 + 4 := by omega
    have e2 : (k + 1) * 4 + 1 = (k * 4 + 1) + 4 := by omega
    have e3 : (k + 1) * 4 + 2 = (k * 4 + 2) + 4 := by omega
    have e4 : (k + 1) * 4 + 3 = (k * 4 + 3) + 4 := by omega
    rw [e2, e3, e4, e1]
    simpa using this
theorem cellsO_len : ∀ xs : List OpD, (cellsO xs).length = xs.length * 4
  | [] => rfl
  | x :: xs => by
    have := cellsO_len xs
    unfold cellsO at this ⊢
    rw [List.flatMap_cons, List.length_append, this, List.length_cons]
    simp
    omega
theorem cellsP_one (s : List Pt) : ∀ u ∈ cellsP s, u.oneCell' = true := by
  intro u hu
  obtain ⟨e, _, he⟩ := List.mem_flatMap.1 hu
  simp at he
  rcases he with rfl | rfl | rfl <;> rfl
theorem cellsO_one (s : List OpD) : ∀ u ∈ cellsO s, u.oneCell' = true := by
  intro u hu
  obtain ⟨e, _, he⟩ := List.mem_flatMap.1 hu
  simp at he
  rcases he with rfl | rfl | rfl | rfl <;> rfl
theorem cellsO_at {s : List OpD} {j : Nat} {u : Value} (h : (cellsO s)[j]? = some u) : ∃ k e, s[k]? = some e ∧ ((j = k * 4 ∧ u = .int .u8 e.kind) ∨ (j = k * 4 + 1 ∧ u = .string e.key) ∨ (j = k * 4 + 2 ∧ u = .string e.item) ∨ (j = k * 4 + 3 ∧ u = .int .i64 e.bin)) := by
  have hl := (List.getElem?_eq_some_iff.1 h).1
  rw [cellsO_len] at hl
  have hk : j / 4 < s.length := by omega
  refine ⟨j / 4, s[j / 4], List.getElem?_eq_getElem hk, ?_⟩
  obtain ⟨h0, h1, h2, h3⟩ := cellsO_get s (j / 4) _ (List.getElem?_eq_getElem hk)
  have hm : j % 4 = 0 ∨ j % 4 = 1 ∨ j % 4 = 2 ∨ j % 4 = 3 := by omega
  rcases hm with hm | hm | hm | hm
  · have e : j / 4 * 4 = j := by omega
    rw [e, h] at h0
    exact .inl ⟨e.symm, Option.some.inj h0⟩
  · have e : j / 4 * 4 + 1 = j := by omega
    rw [e, h] at h1
    exact .inr (.inl ⟨e.symm, Option.some.inj h1⟩)
  · have e : j / 4 * 4 + 2 = j := by omega
    rw [e, h] at h2
    exact .inr (.inr (.inl ⟨e.symm, Option.some.inj h2⟩))
  · have e : j / 4 * 4 + 3 = j := by omega
    rw [e, h] at h3
    exact .inr (.inr (.inr ⟨e.symm, Option.some.inj h3⟩))
theorem IsOps.reads {w : World} {A : Option Addr} {n : Nat} {xs : List OpD} (h : IsOps w A n xs) : Reads w w.heap.size 4 A n (cellsO xs) := by
  obtain ⟨h1, _, h3⟩ := h
  refine ⟨by rw [cellsO_len, h1], fun hn => ?_⟩
  have hl : 0 < xs.length := by omega
  obtain ⟨g, o, rfl, hlt, _⟩ := h3 0 xs[0] (List.getElem?_eq_getElem hl)
  refine ⟨_, rfl, hlt, fun j u hu => ?_⟩
  obtain ⟨k, e, he, hj⟩ := cellsO_at hu
  obtain ⟨g', o', e', _, c0, c1, c2, c3, _⟩ := h3 k e he
  cases e'
  rw [addr_add]
  rcases hj with ⟨rfl, rfl⟩ | ⟨rfl, rfl⟩ | ⟨rfl, rfl⟩ | ⟨rfl, rfl⟩
  · exact c0
  · exact c1
  · exact c2
  · exact c3
/-- What a row of elements gives. -/
theorem row_formN {w : World} {base n size : Nat} {e : TypeId} {v : Value} {xs : List Value} (h : w.ownsRow base e size v n xs) :
    ∃ A cap, v = .slice A n cap ∧ n ≤ 9223372036854775807 ∧ ∀ k u, xs[k]? = some u → ∃ gi, A = some ⟨gi, 0, none⟩ ∧ w.cell? ⟨gi, k, none⟩ = some u ∧ base ≤ gi ∧ gi < w.heap.size := by
  obtain ⟨hl, ⟨rfl, rfl⟩ | ⟨g, cap, cur, rfl, hb, hh, h1, h2, h3, h4⟩⟩ := h
  · exact ⟨none, 0, rfl, by omega, fun k u hu => by
      have : xs = [] := List.eq_nil_of_length_eq_zero (by omega)
      subst this
      simp at hu⟩
  · unfold maxLen at h2
    refine ⟨_, cap, rfl, by omega, fun k u hu => ⟨g, rfl, ?_, hb, ?_⟩⟩
    · rw [cell_of_row w g k cur e (0, 0) hh, ← Array.getElem?_toList]
      rw [← h4] at hu
      rw [List.getElem?_take] at hu
      split at hu
      · exact hu
      · cases hu
    · rcases Nat.lt_or_ge g w.heap.size with hlt | hge
      · exact hlt
      · rw [Array.getElem?_eq_none hge] at hh; cases hh
theorem own_own_ne {w : World} {b1 b2 s1 s2 n1 n2 i : Nat} {t1 t2 : TypeId} {v1 v2 : Value} {x1 x2 : List Value} (h1 : w.ownsRow b1 t1 s1 v1 n1 x1) (h2 : w.ownsRow b2 t2 s2 v2 n2 x2) (hne : t1 ≠ t2) (e1 : v1.ownBlock = some i) : v2.ownBlock ≠ some i := by
  rcases h1.2 with ⟨rfl, _⟩ | ⟨g', cap, cur, rfl, _, hh, _⟩
  · cases e1
  · have : g' = i := by simpa [Value.ownBlock] using e1
    subst this
    exact own_ne h2 (t := t1) (cs := cur) hh (Ne.symm hne)
theorem reads_row (w : World) (t : TypeId) (cs : List Value) {size : Nat} (hs : cs.length = size) : Reads (w.alloc (.cells cs.toArray t)) (w.heap.size + 1) size (some ⟨w.heap.size, 0, none⟩) 1 cs := by
  refine ⟨by omega, fun _ => ⟨_, rfl, Nat.lt_succ_self _, fun j u hu => ?_⟩⟩
  rw [addr_add, Nat.zero_add]
  have := (Blk.new w t cs.toArray).cell j
  rw [this]
  simpa using hu

end Go.Proofs.Yteokognbnilkmaa
