/-
  The walk of Expired: a sum over the entries of a map, in whatever order they come.
-/
import Derived.Test.YtpapgldjmglaiaaWalka
import Derived.Test.YtpapgldjmglaiaaRange
namespace Go.Proofs.Ytpapgldjmglaiaa
open Go.RowKit

/-- What an entry adds. -/
def ex1 (P per : Int) (x : Int × Int) : Int := if x.1 + P ≤ per then x.2 else 0
def kv (e : MapEntry) : Int × Int := (intOf e.key, intOf e.val)
def sumL (c : MapEntry → Int) : List MapEntry → Int
  | [] => 0
  | x :: l => c x + sumL c l
theorem sumL_append (c : MapEntry → Int) (a b : List MapEntry) : sumL c (a ++ b) = sumL c a + sumL c b := by
  induction a with
  | nil => simp [sumL]
  | cons x a ih => simp only [List.cons_append, sumL, ih]; omega
theorem sumL_nonneg {c : MapEntry → Int} : ∀ {l : List MapEntry}, (∀ x ∈ l, 0 ≤ c x) → 0 ≤ sumL c l
  | [], _ => Int.le_refl _
  | x :: l, h => by
    have h1 := h x List.mem_cons_self
    have h2 := sumL_nonneg (c := c) (l := l) (fun y hy => h y (List.mem_cons_of_mem _ hy))
    simp only [sumL]
    omega
theorem sumL_le {c : MapEntry → Int} : ∀ (es done : List MapEntry), (es.map (·.born)).Nodup → (done.map (·.born)).Nodup → (∀ x ∈ done, x ∈ es) → (∀ x ∈ es, 0 ≤ c x) → sumL c done ≤ sumL c es
  | [], done, _, _, hs, _ => by
    cases done with
    | nil => exact Int.le_refl _
    | cons x d => exact absurd (hs x List.mem_cons_self) (by simp)
  | y :: es, done, hn, hd, hs, hc => by
    simp only [List.map_cons, List.nodup_cons] at hn
    have hcy := hc y List.mem_cons_self
    have hc' : ∀ x ∈ es, 0 ≤ c x := fun x hx => hc x (List.mem_cons_of_mem _ hx)
    by_cases hy : y ∈ done
    · obtain ⟨s, t, rfl⟩ := List.append_of_mem hy
      have hd2 : (y.born :: (s ++ t).map (·.born)).Nodup := by
        have hp : (s ++ y :: t).Perm (y :: (s ++ t)) := List.perm_middle
        have := (hp.map (·.born)).nodup hd
        simpa using this
      simp only [List.nodup_cons] at hd2
      have ih := sumL_le es (s ++ t) hn.2 hd2.2 (fun x hx => by
        have hx' : x ∈ s ++ y :: t := by
          rw [List.mem_append] at hx ⊢
          rcases hx with hx | hx
          · exact .inl hx
          · exact .inr (List.mem_cons_of_mem _ hx)
        rcases List.mem_cons.1 (hs x hx') with rfl | h
        · exact absurd (List.mem_map.2 ⟨x, hx, rfl⟩) hd2.1
        · exact h) hc'
      rw [sumL_append] at ih ⊢
      simp only [sumL]
      omega
    · have ih := sumL_le es done hn.2 hd (fun x hx => by
        rcases List.mem_cons.1 (hs x hx) with rfl | h
        · exact absurd hx hy
        · exact h) hc'
      simp only [sumL]
      omega
theorem born_inj {es : List MapEntry} (hn : (es.map (·.born)).Nodup) {x y : MapEntry} (hx : x ∈ es) (hy : y ∈ es) (h : x.born = y.born) : x = y := by
  have h1 := find_born hn hx
  have h2 := find_born hn hy
  rw [h] at h1
  rw [h1] at h2
  exact Option.some.inj h2
theorem sumL_all {c : MapEntry → Int} (es done : List MapEntry) (hn : (es.map (·.born)).Nodup) (hd : (done.map (·.born)).Nodup) (hs : ∀ x ∈ done, x ∈ es) (hc : ∀ x ∈ es, 0 ≤ c x) (hall : ∀ x ∈ es, x.born ∈ done.map (·.born)) : sumL c done = sumL c es := by
  have h1 := sumL_le es done hn hd hs hc
  have h2 := sumL_le done es hd hn (fun x hx => by
    obtain ⟨y, hy, e⟩ := List.mem_map.1 (hall x hx)
    rw [born_inj hn hx (hs y hy) e.symm]
    exact hy) (fun x hx => hc x (hs x hx))
  omega
theorem kv_of {es : List MapEntry} {l : List (Int × Int)} (h : es.map (fun e => (e.key, e.val)) = l.map (fun x => (Value.int .i64 x.1, Value.int .i64 x.2))) : es.map kv = l ∧ ∀ x ∈ es, x.key = .int .i64 (kv x).1 ∧ x.val = .int .i64 (kv x).2 := by
  induction es generalizing l with
  | nil =>
    cases l with
    | nil => simp
    | cons _ _ => simp at h
  | cons e es ih =>
    cases l with
    | nil => simp at h
    | cons x l =>
      simp only [List.map_cons, List.cons.injEq, Prod.mk.injEq] at h
      obtain ⟨⟨hk, hv⟩, ht⟩ := h
      have hkv : kv e = x := by simp [kv, hk, hv, intOf]
      obtain ⟨i1, i2⟩ := ih ht
      refine ⟨by simp [hkv, i1], fun y hy => ?_⟩
      rcases List.mem_cons.1 hy with rfl | hy
      · rw [hkv]; exact ⟨hk, hv⟩
      · exact i2 y hy
theorem sumL_rs (P per : Int) : ∀ (es : List MapEntry) (l : List (Int × Int)), es.map kv = l → (l.map (·.1)).Nodup → (∀ p ∈ l.map (·.1), 0 ≤ p) → sumL (fun e => ex1 P per (kv e)) es = rs (get l) 0 (per - P + 1).toNat
  | [], l, h, _, _ => by
    subst h
    rw [rs_zero (fun _ _ => rfl)]
    rfl
  | e :: es, l, h, hn, hp => by
    subst h
    simp only [List.map_cons, List.nodup_cons, List.mem_cons] at hn hp
    have ih := sumL_rs P per es (es.map kv) rfl hn.2 (fun p hp' => hp p (.inr hp'))
    have h0 : get (es.map kv) (kv e).1 = 0 := get_not_mem _ _ hn.1
    have e1 : get ((e :: es).map kv) = addAt (get (es.map kv)) (kv e).1 (kv e).2 := by
      funext q
      simp only [List.map_cons, get, addAt]
      by_cases hq : q = (kv e).1
      · subst hq; simp [h0]
      · simp [hq, Ne.symm hq]
    have hp0 := hp (kv e).1 (.inl rfl)
    rw [e1, addAt_rs, ← ih]
    simp only [sumL, ex1]
    by_cases hq : (kv e).1 + P ≤ per
    · rw [if_pos hq, if_pos (by omega)]; omega
    · rw [if_neg hq, if_neg (by omega)]; omega

theorem get_mem : ∀ (l : List (Int × Int)) (p v : Int), (l.map (·.1)).Nodup → (p, v) ∈ l → get l p = v
  | [], _, _, _, h => by cases h
  | x :: l, p, v, hn, h => by
    simp only [List.map_cons, List.nodup_cons] at hn
    unfold get
    rcases List.mem_cons.1 h with e | h
    · rw [← e]; simp
    · rw [if_neg (fun e => hn.1 (by rw [e]; exact List.mem_map.2 ⟨_, h, rfl⟩))]
      exact get_mem l p v hn.2 h

theorem wpList_next {P : Program} {w : World} {r b c : Nat} {es : Array MapEntry} {seen : Array Nat} {ops : Array Oper} {rest : List Oper} {o : Oper} {a : Act} {Q : Exit → Act → World → Prop}
    (hg : o.guard = none) (it : Operand) (hop : o.op = Op.next it false) (hit : a.eval it = .pointer (some ⟨b, 0, none⟩)) (hI : It w b r c seen) (hm : Mp w r es c) (hborn : ∀ x ∈ es.toList, x.born < c) (hnd : (es.toList.map (·.born)).Nodup)
    (h1 : (∀ x ∈ es.toList, x.born ∈ seen) → wpList P ops Q rest (a.put o.dst (.tuple #[.bool false])) w)
    (h2 : ∀ x w', x ∈ es.toList → x.born ∉ seen → It w' b r c (seen.push x.born) → Fr (fun i => i = b) w w' → (Instr.entry (.pointer (some ⟨b, 0, none⟩))).run P w' = .ok (.tuple #[x.key, x.val]) w' →
      wpList P ops Q rest (a.put o.dst (.tuple #[.bool true, x.key, x.val])) w') : wpList P ops Q (o :: rest) a w := by
  refine wpList_plain hg fun K hK' => ?_
  unfold Oper.wp
  rcases run_next_map (P := P) o.type hI hm hborn hnd with ⟨hall, hrun⟩ | ⟨x, w', hx, hns, hrun, hI', hf, he⟩
  · simp [execOp, hop, hit, hrun, Result.andThen]
    exact hK' _ _ (h1 hall)
  · simp [execOp, hop, hit, hrun, Result.andThen]
    exact hK' _ _ (h2 x w' hx hns hI' hf he)

/-- What holds at the head of each round. -/
def ERel (w : World) (b r c : Nat) (es : Array MapEntry) (P per : Int) (s : Value) (wr : World) : Prop :=
  ∃ done : List MapEntry, (done.map (·.born)).Nodup ∧ (∀ x ∈ done, x ∈ es.toList) ∧ It wr b r c (done.map (·.born)).toArray ∧ s = .int .i64 (sumL (fun e => ex1 P per (kv e)) done) ∧ Same w wr
def itLen (wr : World) (b : Nat) : Nat := match wr.heap[b]? with | some (.mapIter _ _ seen _) => seen.size | _ => 0

set_option maxHeartbeats 1000000 in
theorem expired_any (g r K : Nat) (a : Ac) (per : Int) (w : World) (h : IsA w g r a) (ok : a.Ok K) : Calls Try.prog 16 #[.pointer (some ⟨g, 0, none⟩), .int .i64 per] w fun e w' => e = .returned (.int .i64 (a.expired per)) ∧ Same w w' := by
  by_cases h0 : Ac.isP per = true
  · have e : a.expired per = rs a.f 0 (per - a.P + 1).toNat := by unfold Ac.expired; rw [if_pos h0]
    rw [e]
    have h0' : 0 ≤ per ∧ per ≤ 1000000 := by simpa [Ac.isP] using h0
    obtain ⟨q1, q2⟩ := h0'
    have H0 := Lib.hid h0
    have p1 := ok.p1
    have p2 := ok.p2
    obtain ⟨hblk, l, ⟨es, c, hm, hl, hn, hbn, hbc⟩, hget, hpos⟩ := h
    obtain ⟨hkv, hkk⟩ := kv_of hl
    have hsum := sumL_rs a.P per es.toList l hkv hn (fun p hp => (hpos p hp).1)
    have hfe : get l = a.f := funext hget
    rw [hfe] at hsum
    have hval : ∀ x ∈ es.toList, (0 ≤ (kv x).1 ∧ (kv x).1 ≤ 1000000) ∧ 0 ≤ (kv x).2 := by
      intro x hx
      have hm1 : kv x ∈ l := by rw [← hkv]; exact List.mem_map.2 ⟨x, hx, rfl⟩
      refine ⟨hpos _ (List.mem_map.2 ⟨_, hm1, rfl⟩), ?_⟩
      have := get_mem l (kv x).1 (kv x).2 hn hm1
      rw [hget] at this
      rw [← this]
      exact ok.nn _
    have hnn : ∀ x ∈ es.toList, 0 ≤ ex1 a.P per (kv x) := by
      intro x hx
      unfold ex1
      split
      · exact (hval x hx).2
      · exact Int.le_refl _
    have htot := ok.bd 0 (per - a.P + 1).toNat
    rw [← hsum] at htot
    have c1 := hblk.cell 1
    have c2 := hblk.cell 2
    have gl := hblk.lt
    have rl := hm.lt
    simp at c1 c2
    have hrg := run_range_map (P := Try.prog) (t := 48) Try.underlying48 hm
    have hat : ERel w w.heap.size r c es a.P per (.int .i64 0) (w.alloc (.mapIter (some r) c #[] c)) := ⟨[], by simp, by simp, heap_alloc_new w _, rfl, (Fr.refl _ _).alloc _⟩
    have HS := Lib.hid hsum
    have HV := Lib.hid hval
    have HN := Lib.hid hnn
    have HBN := Lib.hid hbn
    have HBC := Lib.hid hbc
    have HK := Lib.hid hkk
    clear hsum hval hnn hbn hbc hkk hkv hl hn hget hpos hfe e h0
    go_enter Try.func16, Try.ntmps16
    go_wp2_with fail
    refine (isp_any per w).mono ?_
    rintro e w' ⟨rfl, rfl⟩
    rw [H0.out]
    go_wp2
    clear hrg
    go_loopw [5] (fun s wr => ERel w w.heap.size r c es a.P per s wr) (fun _ wr => es.size - itLen wr w.heap.size)
    case atStart => exact hat
    case round =>
      obtain ⟨done, hd1, hd2, hI, rfl, hsm⟩ := hrel
      have hm' : Mp wr r es c := hm.fr hsm (fun x => x)
      have hb' := hblk.fr hsm (fun x => x)
      have hsz := hsm.size
      have hle := sumL_le es.toList done HBN.out hd1 hd2 HN.out
      have hge := sumL_nonneg (c := fun e => ex1 a.P per (kv e)) (fun x hx => HN.out x (hd2 x hx))
      go_wp2_with ((with_reducible show wpList _ _ _ (⟨_, Op.next _ _, _, _, _, _⟩ :: _) _ _); refine wpList_next rfl _ rfl rfl hI hm' HBC.out HBN.out ?_ ?_)
      · intro hall
        have hS := sumL_all es.toList done HBN.out hd1 hd2 HN.out (fun x hx => by have := hall x (by simpa using hx); simpa using this)
        have HSS := Lib.hid hS
        clear hS hall
        go_wp2
        go_ret
        exact ⟨ret_int (by rw [HSS.out, HS.out]), hsm⟩
      · intro x w2 hx0 hns0 hI2 hf2 hent
        have hx : x ∈ es.toList := by simpa using hx0
        have hns : x.born ∉ done.map (·.born) := by simpa using hns0
        clear hx0 hns0
        obtain ⟨hk1, hk2⟩ := HK.out x hx
        obtain ⟨⟨v1, v2⟩, v3⟩ := HV.out x hx
        rw [hk1, hk2] at hent
        have hd1' : ((done ++ [x]).map (·.born)).Nodup := by
          rw [List.map_append, List.nodup_append]
          refine ⟨hd1, by simp, fun y hy z hz => ?_⟩
          simp at hz
          subst hz
          intro e
          subst e
          exact hns hy
        have hd2' : ∀ y ∈ done ++ [x], y ∈ es.toList := by
          intro y hy
          rcases List.mem_append.1 hy with hy | hy
          · exact hd2 y hy
          · simp at hy; subst hy; exact hx
        have hle' := sumL_le es.toList (done ++ [x]) HBN.out hd1' hd2' HN.out
        rw [sumL_append] at hle'
        simp only [sumL] at hle'
        have hsm' : Same w w2 := ⟨hf2.os.trans hsm.os, hf2.tape.trans hsm.tape, hf2.output.trans hsm.output, Nat.le_trans hsm.size hf2.size, fun i hi hn => (hf2.block i (by omega) (by omega)).trans (hsm.block i hi hn)⟩
        have HE : Hid (ERel w w.heap.size r c es a.P per (.int .i64 (sumL (fun e => ex1 a.P per (kv e)) done + ex1 a.P per (kv x))) w2) :=
          ⟨done ++ [x], hd1', hd2', by simpa using hI2, by rw [sumL_append]; simp [sumL], hsm'⟩
        have HM : Hid (es.size - itLen w2 w.heap.size < es.size - itLen wr w.heap.size) := by
          show es.size - itLen w2 w.heap.size < es.size - itLen wr w.heap.size
          have e1 : itLen wr w.heap.size = done.length := by unfold itLen; rw [hI]; simp
          have e2 : itLen w2 w.heap.size = done.length + 1 := by unfold itLen; rw [hI2]; simp
          have hlen : (done ++ [x]).length ≤ es.toList.length := by
            have h1 := sumL_le (c := fun _ => 1) es.toList (done ++ [x]) HBN.out hd1' hd2' (fun _ _ => by omega)
            have h2 : ∀ l : List MapEntry, sumL (fun _ => 1) l = l.length := by
              intro l
              induction l with
              | nil => rfl
              | cons y l ih => simp only [sumL, ih, List.length_cons]; omega
            rw [h2, h2] at h1
            omega
          simp at hlen
          omega
        have hb2 := hblk.fr hsm' (fun x => x)
        have d1 := hb2.cell 1
        simp at d1
        rw [hk1, hk2]
        clear hk1 hk2 hI hI2 hm' hb' hb2 hf2 hsm hsm' hd1' hd2' hns hx
        by_cases hc : (kv x).1 + a.P ≤ per
        · have hex : Hid (ex1 a.P per (kv x) = (kv x).2) := by show ex1 _ _ _ = _; unfold ex1; rw [if_pos hc]
          have hb9 : (kv x).2 ≤ 225179981368524800 := by have := hex.out; omega
          go_wp2
          go_roundw
          case rel => have := HE.out; rw [hex.out] at this; exact this
          case measure => exact HM.out
        · have hex : Hid (ex1 a.P per (kv x) = 0) := by show ex1 _ _ _ = _; unfold ex1; rw [if_neg hc]
          go_wp2
          go_roundw
          case rel => have := HE.out; rw [hex.out] at this; simpa using this
          case measure => exact HM.out
  · have e : a.expired per = 0 := by unfold Ac.expired; rw [if_neg h0]
    rw [e]
    have H0 := Lib.hid h0
    clear e h0 h
    go_enter Try.func16, Try.ntmps16
    go_wp2_with fail
    refine (isp_any per w).mono ?_
    rintro e w' ⟨rfl, rfl⟩
    rw [show Ac.isP per = false from by simpa using H0.out]
    go_wp2
    go_ret
    exact ⟨rfl, Same.refl _⟩

end Go.Proofs.Ytpapgldjmglaiaa
