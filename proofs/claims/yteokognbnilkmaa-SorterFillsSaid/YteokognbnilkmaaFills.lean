/-
  SorterFills returns true for every script, key and item.
-/
import Derived.Test.YteokognbnilkmaaScript
import Derived.Deep.DeepCutAuto
namespace Go.Proofs.Yteokognbnilkmaa.sorterFills
open Go.ChangeShapes Go.WideShapes Go.ChangeAt Go.RowKit

/-- What is left when the first k bins are emptied. -/
def clr (bs : Bins) (k : Nat) : Bins := List.replicate k emp ++ bs.drop k
def thK (x : Bs) (bs : Bins) (k : Nat) : Bool := (bs.take k).any fun b => decide (x ∈ b.items)
def rmB (c : Nat) (key : Bs) (b : Bin) : Bool := decide (b.items = []) || (decide (b.key = key) && decide (b.items.length < c))
def rmK (c : Nat) (key : Bs) (bs : Bins) (k : Nat) : Bool := (bs.take k).any (rmB c key)
theorem thK_step {x : Bs} {bs : Bins} {k : Nat} {b : Bin} (h : bs[k]? = some b) : thK x bs (k + 1) = (thK x bs k || decide (x ∈ b.items)) := by
  unfold thK
  rw [List.take_add_one, h, List.any_append]
  simp
theorem rmK_step {c : Nat} {key : Bs} {bs : Bins} {k : Nat} {b : Bin} (h : bs[k]? = some b) : rmK c key bs (k + 1) = (rmK c key bs k || rmB c key b) := by
  unfold rmK
  rw [List.take_add_one, h, List.any_append]
  simp
theorem clr_zero (bs : Bins) : clr bs 0 = bs := by simp [clr]
theorem clr_get {bs : Bins} {k : Nat} (h : k < bs.length) : (clr bs k)[k]? = bs[k]? := by
  unfold clr
  rw [List.getElem?_append_right (by simp), List.getElem?_drop]
  simp
theorem clr_len {bs : Bins} {k : Nat} (h : k ≤ bs.length) : (clr bs k).length = bs.length := by simp [clr]; omega
theorem clr_set {bs : Bins} {k : Nat} (h : k < bs.length) : (clr bs k).set k emp = clr bs (k + 1) := by
  unfold clr
  rw [List.set_append_right _ _ (by simp), List.replicate_succ', List.append_assoc, List.length_replicate, Nat.sub_self, List.drop_eq_getElem_cons h]
  rfl
theorem clr_skip {bs : Bins} {k : Nat} (h : bs[k]? = some emp) : clr bs k = clr bs (k + 1) := by
  have hk := (List.getElem?_eq_some_iff.1 h).1
  rw [← clr_set hk]
  apply List.ext_getElem?
  intro j
  rw [List.getElem?_set]
  split
  · rename_i e
    subst e
    rw [clr_get hk, h, if_pos (by rw [clr_len (by omega)]; exact hk)]
  · rfl
theorem clr_tot (bs : Bins) : tot (clr bs bs.length) = 0 := by
  apply tot_zero
  intro b hb
  unfold clr at hb
  rw [List.drop_length, List.append_nil] at hb
  rw [List.eq_of_mem_replicate hb]
  rfl
theorem clr_take {c : Nat} {bs : Bins} {k : Nat} {b : Bin} (ok : BOk c bs) (hb : bs[k]? = some b) : (b.items = [] ∧ sTake (clr bs k) (k : Int) = (clr bs (k + 1), nul, [], 18)) ∨ (b.items ≠ [] ∧ sTake (clr bs k) (k : Int) = (clr bs (k + 1), b.key, b.items, 0)) := by
  have hk := (List.getElem?_eq_some_iff.1 hb).1
  have e : sTake (clr bs k) (k : Int) = if b.items = [] then (clr bs k, nul, [], 18) else ((clr bs k).set k emp, b.key, b.items, 0) := by
    unfold sTake
    rw [if_neg (by rw [clr_len (by omega)]; omega), Int.toNat_natCast, clr_get hk, hb]
    rfl
  rw [e]
  by_cases hi : b.items = []
  · left
    rw [if_pos hi]
    have hbe : b = emp := by
      have := ok.nk b (List.mem_of_getElem? hb) hi
      cases b
      simp only at this hi
      subst this
      subst hi
      rfl
    rw [clr_skip (by rw [hb, hbe])]
    exact ⟨hi, rfl⟩
  · right
    rw [if_neg hi, clr_set hk]
    exact ⟨hi, rfl⟩

/-- What Put does, in four cases. -/
theorem put_cases (c : Nat) (bs : Bins) (ok : BOk c bs) (key item : Bs) :
    ((key = nul ∨ item = nul) ∧ sPut c bs key item = (bs, 0, 6)) ∨
    (key ≠ nul ∧ item ≠ nul ∧ sPut c bs key item = (bs, 0, 7) ∧ thK item bs bs.length = true) ∨
    (key ≠ nul ∧ item ≠ nul ∧ sPut c bs key item = (bs, 0, 12) ∧ rmK c key bs bs.length = false) ∨
    (key ≠ nul ∧ item ≠ nul ∧ ∃ bs1 i, sPut c bs key item = (bs1, i, 0) ∧ i < bs.length ∧ bs1.length = bs.length ∧ tot bs1 = tot bs + 1 ∧ thK item bs1 bs1.length = true ∧ BOk c bs1) := by
  by_cases h0 : key = nul ∨ item = nul
  · left; exact ⟨h0, by unfold sPut; rw [if_pos h0]⟩
  · right
    have hk : key ≠ nul := fun e => h0 (.inl e)
    have hi : item ≠ nul := fun e => h0 (.inr e)
    have okk : ∀ {i b}, bs[i]? = some b → b.items.length < c → tot (putAt bs i key item) = tot bs + 1 ∧ thK item (putAt bs i key item) (putAt bs i key item).length = true := by
      intro i b hb hl
      constructor
      · clear hl ok
        unfold putAt
        induction bs generalizing i with
        | nil => simp at hb
        | cons a bs ih =>
          cases i with
          | zero =>
            simp at hb
            subst hb
            simp [tot]
            omega
          | succ i =>
            have := ih (i := i) (by simpa using hb)
            simp only [tot, List.modify_succ_cons, List.map_cons, List.sum_cons] at this ⊢
            omega
      · unfold thK
        rw [List.take_length, List.any_eq_true]
        refine ⟨⟨key, b.items ++ [item]⟩, List.mem_of_getElem? (i := i) ?_, by simp⟩
        rw [putAt_get, if_pos rfl, hb]
        rfl
    by_cases h1 : (fnd (pHas item) bs).isSome
    · left
      refine ⟨hk, hi, by unfold sPut; rw [if_neg h0, if_pos h1], ?_⟩
      obtain ⟨i, hf⟩ := Option.isSome_iff_exists.1 h1
      obtain ⟨b, hb, hp, _⟩ := fnd_some hf
      unfold thK
      rw [List.take_length, List.any_eq_true]
      exact ⟨b, List.mem_of_getElem? hb, hp⟩
    · right
      cases h2 : fnd (pKey c key) bs with
      | some i =>
        right
        obtain ⟨b, hb, hp, _⟩ := fnd_some h2
        have hl : b.items.length < c := by unfold pKey at hp; simp at hp; omega
        obtain ⟨k1, k2⟩ := okk hb hl
        exact ⟨hk, hi, _, i, by unfold sPut; rw [if_neg h0, if_neg h1, h2], (List.getElem?_eq_some_iff.1 hb).1, putAt_len _ _ _ _, k1, k2, putAt_ok ok hb hl key item⟩
      | none =>
        cases h3 : fnd pEmpty bs with
        | some i =>
          right
          obtain ⟨b, hb, hp, _⟩ := fnd_some h3
          have hl : b.items.length < c := by have := ok.c1; unfold pEmpty at hp; simp at hp; rw [hp]; simp; omega
          obtain ⟨k1, k2⟩ := okk hb hl
          exact ⟨hk, hi, _, i, by unfold sPut; rw [if_neg h0, if_neg h1, h2, h3], (List.getElem?_eq_some_iff.1 hb).1, putAt_len _ _ _ _, k1, k2, putAt_ok ok hb hl key item⟩
        | none =>
          left
          refine ⟨hk, hi, by unfold sPut; rw [if_neg h0, if_neg h1, h2, h3], ?_⟩
          unfold rmK
          rw [List.take_length, List.any_eq_false]
          intro b hb
          have e1 := fnd_none_iff.1 h2 b hb
          have e2 := fnd_none_iff.1 h3 b hb
          unfold pKey at e1
          unfold pEmpty at e2
          unfold rmB
          simp at e1 e2 ⊢
          refine ⟨e2, fun e3 => ?_⟩
          exact e1 e3

/-- What is known of a Put, whatever its code. -/
structure PutK (c n : Nat) (bs bs1 : Bins) (key item : Bs) (i : Nat) (e : Int) : Prop where
  put : sPut c bs key item = (bs1, i, e)
  ok : BOk c bs1
  len : bs1.length = n
  ways : (e = 6 ∧ (key = nul ∨ item = nul) ∧ tot bs1 = tot bs) ∨ (e = 7 ∧ key ≠ nul ∧ item ≠ nul ∧ tot bs1 = tot bs ∧ thK item bs1 bs1.length = true) ∨
    (e = 12 ∧ key ≠ nul ∧ item ≠ nul ∧ tot bs1 = tot bs ∧ rmK c key bs1 bs1.length = false) ∨ (e = 0 ∧ key ≠ nul ∧ item ≠ nul ∧ i < n ∧ tot bs1 = tot bs + 1 ∧ thK item bs1 bs1.length = true)
theorem put_known {c n : Nat} {bs : Bins} (ok : BOk c bs) (hn : bs.length = n) (key item : Bs) : ∃ bs1 i e, PutK c n bs bs1 key item i e := by
  rcases put_cases c bs ok key item with ⟨h0, hp⟩ | ⟨hk, hi, hp, hth⟩ | ⟨hk, hi, hp, hrm⟩ | ⟨hk, hi, bs1, i, hp, hib, hl1, ht1, hth, ok1⟩
  · exact ⟨bs, 0, 6, hp, ok, hn, .inl ⟨rfl, h0, rfl⟩⟩
  · exact ⟨bs, 0, 7, hp, ok, hn, .inr (.inl ⟨rfl, hk, hi, rfl, hth⟩)⟩
  · exact ⟨bs, 0, 12, hp, ok, hn, .inr (.inr (.inl ⟨rfl, hk, hi, rfl, hrm⟩))⟩
  · exact ⟨bs1, i, 0, hp, ok1, hl1.trans hn, .inr (.inr (.inr ⟨rfl, hk, hi, by omega, ht1, hth⟩))⟩

/-- What holds at the head of each round of the first loop. -/
def Rel (w : World) (x : ScD) (g b c len n : Nat) (i : Value) (wr : World) : Prop :=
  ∃ (k : Nat) (bs : Bins) (K : Nat → Prop), k ≤ len ∧ i = .int .i64 k ∧ SX w K x wr g b c bs ∧ bs.length = n
/-- .. of the second. -/
def Rel2 (w : World) (x : ScD) (g b c : Nat) (bs : Bins) (key item : Bs) (gh : Nat) (th rm i : Value) (wr : World) : Prop :=
  ∃ (k : Nat) (K : Nat → Prop), k ≤ bs.length ∧ gh = bs.length - k ∧ i = .int .i64 k ∧ th = .bool (thK item bs k) ∧ rm = .bool (rmK c key bs k) ∧ SX w K x wr g b c (clr bs k)
/-- .. of the third. -/
def Rel3 (w : World) (item : Bs) (xs : List Bs) (t0 : Bool) (th m : Value) (wr : World) : Prop :=
  ∃ j : Nat, j ≤ xs.length ∧ m = .int .i64 j ∧ th = .bool (t0 || decide (item ∈ xs.take j)) ∧ wr = w
theorem mem_step {xs : List Bs} {j : Nat} {y item : Bs} (h : xs[j]? = some y) : decide (item ∈ xs.take (j + 1)) = (decide (item ∈ xs.take j) || decide (y = item)) := by
  rw [List.take_add_one, h]
  rw [Bool.eq_iff_iff]
  simp
  constructor
  · rintro (h | h)
    · exact .inl h
    · exact .inr h.symm
  · rintro (h | h)
    · exact .inl h
    · exact .inr h.symm
theorem take_len (bs : Bins) (i : Int) : (sTake bs i).1.length = bs.length := by
  unfold sTake
  split
  · rfl
  · split
    · rfl
    · split
      · rfl
      · simp
theorem put_len (c : Nat) (bs : Bins) (k x : Bs) : (sPut c bs k x).1.length = bs.length := by
  unfold sPut
  split
  · rfl
  · split
    · rfl
    · split
      · exact putAt_len _ _ _ _
      · split
        · exact putAt_len _ _ _ _
        · rfl

set_option maxRecDepth 100000 in
set_option maxHeartbeats 8000000 in
theorem walk (x : ScD) (key item : Bs) (w : World) (hx : x.Wf w) (sk : key.size ≤ 9223372036854775807) (si : item.size ≤ 9223372036854775807) : Calls Try.prog 4 #[x.agg, .string key, .string item] w fun e w' => e = .returned (.bool true) ∧ Below w.heap.size w w' := by
  obtain ⟨bn, cp, A, len, scap, xs⟩ := x
  have hal : Same w (w.alloc (.cells (ScD.cells ⟨bn, cp, A, len, scap, xs⟩) 24)) := (Fr.refl _ _).alloc _
  have HX := Lib.hid hx
  have HX0 := Lib.hid (ScD.Wf.same hx hal)
  have hml := hx.ops.2.1
  have hxl := hx.ops.1
  simp only at hml hxl
  clear hx
  unfold ScD.agg
  simp only
  unfold ScD.cells at hal
  simp only at hal
  go_enter Try.func4, Try.ntmps4
  go_wp2_with fail
  refine (small_any ⟨bn, cp, A, len, scap, xs⟩ _ HX0.out).mono ?_
  rintro e w1 ⟨bb, rfl, s1, hb⟩
  simp only at hb
  have bx := (Blk.new w 24 (ScD.cells ⟨bn, cp, A, len, scap, xs⟩)).fr s1 (fun x => x)
  have b0 : w1.cell? ⟨w.heap.size, 0, none⟩ = some (.int .i64 bn) := bx.cell 0
  have b1 : w1.cell? ⟨w.heap.size, 1, none⟩ = some (.int .i64 cp) := bx.cell 1
  have t1 : Same w w1 := Fr.trans hal s1
  have HS1 := Lib.hid s1
  clear hal bx s1
  cases bb with
  | false =>
    clear hb
    go_wp2_with fail
    refine (awake_any _).mono ?_
    rintro e w9 ⟨rfl, hb9⟩
    go_wp2
    go_ret
    exact ⟨rfl, t1.below.trans (hb9.mono t1.size)⟩
  | true =>
    have hlen := hb rfl
    clear hb
    by_cases k1 : (key.size : Int) > 100
    · go_wp2_with fail
      refine (awake_any _).mono ?_
      rintro e w9 ⟨rfl, hb9⟩
      go_wp2
      go_ret
      exact ⟨rfl, t1.below.trans (hb9.mono t1.size)⟩
    · have tt := True.intro
      by_cases k2 : (item.size : Int) > 100
      · go_wp2_with fail
        refine (awake_any _).mono ?_
        rintro e w9 ⟨rfl, hb9⟩
        go_wp2
        go_ret
        exact ⟨rfl, t1.below.trans (hb9.mono t1.size)⟩
      · have tt := True.intro
        by_cases hbad : NewBad bn cp
        · go_wp2_with fail
          refine (new_bad bn cp _ hbad).mono ?_
          rintro e w' ⟨rfl, rfl⟩
          go_wp2_with fail
          refine (awake_any _).mono ?_
          rintro e w9 ⟨rfl, hb9⟩
          go_wp2
          go_ret
          exact ⟨rfl, t1.below.trans (hb9.mono t1.size)⟩
        · have hg : (1 ≤ bn ∧ bn ≤ 16) ∧ 1 ≤ cp ∧ cp ≤ 32 := by unfold NewBad at hbad; omega
          obtain ⟨⟨g1, g2⟩, g3, g4⟩ := hg
          obtain ⟨n, rfl⟩ : ∃ k : Nat, bn = (k : Int) := ⟨bn.toNat, by omega⟩
          obtain ⟨c, rfl⟩ : ∃ k : Nat, cp = (k : Int) := ⟨cp.toNat, by omega⟩
          clear hbad
          go_wp2_with fail
          refine (sx_new ⟨(n : Int), (c : Int), A, len, scap, xs⟩ HX.out HS1.out n c (by omega) (by omega) (by omega) (by omega)).mono ?_
          rintro e w2 ⟨rfl, h2⟩
          generalize hX : (⟨(n : Int), (c : Int), A, len, scap, xs⟩ : ScD) = X at HX HX0 h2
          have EX : Hid (X.bins = (n : Int) ∧ X.cap = (c : Int) ∧ X.A = A ∧ X.len = len ∧ X.scap = scap ∧ X.xs = xs) := by rw [← hX]; exact ⟨rfl, rfl, rfl, rfl, rfl, rfl⟩
          have A2 : Hid (∀ (K : Nat → Prop) (W : World) (g b : Nat) (bs : Bins), SX w K X W g b c bs → W.cell? ⟨w.heap.size, 2, none⟩ = some (.slice A len scap)) := fun K W g b bs h => by
            have := h.at2
            rw [EX.out.2.2.1, EX.out.2.2.2.1, EX.out.2.2.2.2.1] at this
            exact this
          have A1 : Hid (∀ (K : Nat → Prop) (W : World) (g b : Nat) (bs : Bins), SX w K X W g b c bs → W.cell? ⟨w.heap.size, 1, none⟩ = some (.int .i64 c)) := fun K W g b bs h => by
            have := h.at1
            rw [EX.out.2.1] at this
            exact this
          have A0 : Hid (∀ (K : Nat → Prop) (W : World) (g b : Nat) (bs : Bins), SX w K X W g b c bs → W.cell? ⟨w.heap.size, 0, none⟩ = some (.int .i64 n)) := fun K W g b bs h => by
            have := h.at0
            rw [EX.out.1] at this
            exact this
          clear hX b0 b1 HX0 HX t1
          have HR : Hid (Rel w X (w1.heap.size + 1) w1.heap.size c len n (.int .i64 0) w2) := ⟨0, _, _, by omega, rfl, h2, by simp⟩
          have d2 := A2.out _ _ _ _ _ h2
          clear h2 tt
          generalize w1.heap.size = hb1 at HR
          go_wp2
          go_loopw [9] (fun i wr => Rel w X (hb1 + 1) hb1 c len n i wr) (fun i _ => len - (intOf i).toNat)
          case atStart => exact HR.out
          case round =>
            obtain ⟨k, bs, K, hk, rfl, h3, hbn⟩ := hrel
            clear HR d2
            have d2 := A2.out _ _ _ _ _ h3
            have HBN := Lib.hid hbn
            clear hbn
            by_cases hlt : k < len
            · obtain ⟨y, hy⟩ : ∃ y, xs[k]? = some y := ⟨xs[k]'(by omega), List.getElem?_eq_getElem _⟩
              have hyX : X.xs[k]? = some y := by rw [EX.out.2.2.2.2.2]; exact hy
              obtain ⟨bb, o, eA, hbl, ⟨c0, c1, c2, c3⟩, hwf⟩ := h3.op hyX
              rw [EX.out.2.2.1] at eA
              subst eA
              have i2 : (k : Int) < (len : Int) := by omega
              have hal : Same wr (wr.alloc (.cells #[.int .u8 y.kind, .string y.key, .string y.item, .int .i64 y.bin] 33)) := (Fr.refl _ _).alloc _
              have h4 := h3.same hal
              clear hy hyX hwf h3 hal
              by_cases hk0 : y.kind = 0
              · have t0 : (y.kind == 0) = true := by simp [hk0]
                clear hk0
                go_wp2_with fail
                refine (SX.put h4).mono ?_
                rintro e w5 ⟨rfl, h5, _⟩
                have HE : Hid (Rel w X (hb1 + 1) hb1 c len n (.int .i64 ((k : Int) + 1)) w5) := ⟨k + 1, _, _, by omega, by simp, h5, by rw [put_len]; exact HBN.out⟩
                clear h4 h5
                go_wp2
                go_roundw
                case rel => exact HE.out
                case measure => simp [intOf]; omega
              · have t0 : (y.kind == 0) = false := by simp [hk0]
                clear hk0
                go_wp2_with fail
                refine (SX.take h4).mono ?_
                rintro e w5 ⟨A5, c5, rfl, _, _, h5, _⟩
                have HE : Hid (Rel w X (hb1 + 1) hb1 c len n (.int .i64 ((k : Int) + 1)) w5) := ⟨k + 1, _, _, by omega, by simp, h5, by rw [take_len]; exact HBN.out⟩
                clear h4 h5
                go_wp2
                go_roundw
                case rel => exact HE.out
                case measure => simp [intOf]; omega
            · have okb := h3.ok
              have htl := tot_le bs okb.le
              have htl2 : tot bs ≤ 512 := Nat.le_trans htl (Nat.mul_le_mul okb.n2 okb.c2)
              obtain ⟨bs1, i, cd, hpk⟩ := put_known okb HBN.out key item
              have HP := Lib.hid hpk
              clear htl hpk okb
              go_wp2_with fail
              refine h3.len.mono ?_
              rintro e w4 ⟨rfl, h4, _⟩
              clear h3 d2
              go_wp2_with fail
              refine (h4.put_to HP.out.put).mono ?_
              rintro e w5 ⟨rfl, h5, _⟩
              clear h4
              have d0 := A0.out _ _ _ _ _ h5
              go_upto_region 15 with fail
              go_cut [119] (fun s wc => s = .bool false ∧ SX w K X wc (hb1 + 1) hb1 c bs1)
              case first =>
                rcases HP.out.ways with ⟨rfl, h0, ht⟩ | ⟨rfl, hk, hi, ht, _⟩ | ⟨rfl, hk, hi, ht, _⟩ | ⟨rfl, hk, hi, hin, ht, _⟩
                · have HT := Lib.hid ht
                  by_cases hkn : key = nul
                  · have kk := eq_of hkn
                    clear h0 hkn ht
                    go_wp2_with fail
                    refine (h5.len_to HT.out).mono ?_
                    rintro e w6 ⟨rfl, h6, _⟩
                    go_wp2
                    go_meet
                    exact ⟨rfl, h6⟩
                  · have kk := ne_of hkn
                    have ki := eq_of (h0.resolve_left hkn)
                    clear h0 hkn ht
                    go_wp2_with fail
                    refine (h5.len_to HT.out).mono ?_
                    rintro e w6 ⟨rfl, h6, _⟩
                    go_wp2
                    go_meet
                    exact ⟨rfl, h6⟩
                · have HT := Lib.hid ht
                  have kk := ne_of hk
                  have ki := ne_of hi
                  clear hk hi ht
                  go_wp2_with fail
                  refine (h5.len_to HT.out).mono ?_
                  rintro e w6 ⟨rfl, h6, _⟩
                  go_wp2
                  go_meet
                  exact ⟨rfl, h6⟩
                · have HT := Lib.hid ht
                  have kk := ne_of hk
                  have ki := ne_of hi
                  clear hk hi ht
                  go_wp2_with fail
                  refine (h5.len_to HT.out).mono ?_
                  rintro e w6 ⟨rfl, h6, _⟩
                  go_wp2
                  go_meet
                  exact ⟨rfl, h6⟩
                · have HT := Lib.hid ht
                  have kk := ne_of hk
                  have ki := ne_of hi
                  have hin2 : (i : Int) < (n : Int) := by omega
                  have hsum : ((tot bs + 1 : Nat) : Int) = (tot bs : Int) + 1 := by omega
                  clear hk hi ht hin
                  go_wp2_with fail
                  refine (h5.len_to HT.out).mono ?_
                  rintro e w6 ⟨rfl, h6, _⟩
                  have d0' := A0.out _ _ _ _ _ h6
                  rw [hsum]
                  clear d0
                  go_wp2
                  go_meet
                  exact ⟨by simp; omega, h6⟩
              case rest =>
                obtain ⟨rfl, h6⟩ := hcut
                have HLN := Lib.hid HP.out.len
                have OK := Lib.hid HP.out.ok
                have HR2 : Hid (Rel2 w X (hb1 + 1) hb1 c bs1 key item n (.bool false) (.bool false) (.int .i64 0) wc) := ⟨0, _, by omega, by rw [HLN.out]; rfl, rfl, rfl, rfl, by rw [clr_zero]; exact h6⟩
                clear h5 h6 d0
                go_wp2
                go_loopg [14, 15, 16] n (fun gh th rm i wr => Rel2 w X (hb1 + 1) hb1 c bs1 key item gh th rm i wr)
                case atStart => exact HR2.out
                case round =>
                  obtain ⟨gO, hgO⟩ : ∃ g, g = gk := ⟨_, rfl⟩
                  subst hgO
                  obtain ⟨k, K, hk, hgk, rfl, rfl, rfl, h7⟩ := hrel
                  have HGK := Lib.hid hgk
                  clear HR2 hgk
                  rw [HLN.out] at hk
                  have d0 := A0.out _ _ _ _ _ h7
                  by_cases hlt : k < n
                  · obtain ⟨b, hb⟩ : ∃ b, bs1[k]? = some b := ⟨bs1[k]'(by rw [HLN.out]; exact hlt), List.getElem?_eq_getElem _⟩
                    have HTS := Lib.hid (thK_step (x := item) hb)
                    have HRS := Lib.hid (rmK_step (c := c) (key := key) hb)
                    have hlt2 : (k : Int) < (n : Int) := by omega
                    have hbl := OK.out.le b (List.mem_of_getElem? hb)
                    have HTK := Lib.hid (clr_take OK.out hb)
                    have hc2 : c ≤ 32 := OK.out.c2
                    generalize hrk : rmK c key bs1 k = rk at HRS
                    generalize htk0 : thK item bs1 k = t0 at HTS
                    obtain ⟨rn, hrn⟩ : ∃ rn, (rk || rmB c key b) = rn := ⟨_, rfl⟩
                    have HRN := Lib.hid hrn
                    obtain ⟨lk, ll, le, hst, hlk⟩ : ∃ (lk : Bs) (ll : List Bs) (le : Int), sTake (clr bs1 k) (k : Int) = (clr bs1 (k + 1), lk, ll, le) ∧ (ll = b.items ∧ ((b.items = [] ∧ le = 18) ∨ (b.items ≠ [] ∧ le = 0 ∧ lk = b.key))) := by
                      rcases HTK.out with ⟨h1, h2⟩ | ⟨h1, h2⟩
                      · exact ⟨_, _, _, h2, by rw [h1], .inl ⟨h1, rfl⟩⟩
                      · exact ⟨_, _, _, h2, rfl, .inr ⟨h1, rfl, rfl⟩⟩
                    obtain ⟨rfl, hlk⟩ := hlk
                    have HST := Lib.hid hst
                    have HLK := Lib.hid hlk
                    clear hrk htk0 hrn hb hst hlk
                    go_wp2_with fail
                    refine (h7.take_to HST.out).mono ?_
                    rintro e w8 ⟨A8, c8, rfl, r8, _, h8, _⟩
                    have HC := Lib.hid r8.2.2
                    have d1 := A1.out _ _ _ _ _ h8
                    have HE : Hid (Rel2 w X (hb1 + 1) hb1 c bs1 key item (gO - 1) (.bool (t0 || decide (item ∈ b.items))) (.bool rn) (.int .i64 ((k : Int) + 1)) w8) := ⟨k + 1, _, by rw [HLN.out]; omega, by rw [HGK.out]; omega, by simp, by rw [HTS.out], by rw [HRS.out, HRN.out], h8⟩
                    have hbl2 : (b.items.length : Int) ≤ 32 := by omega
                    clear h7 h8 r8 d0
                    go_upto_region 22 with fail
                    go_cut [15] (fun s wc => s = .bool rn ∧ wc = w8)
                    case first =>
                      cases rk with
                      | true =>
                        have HV : Hid (rn = true) := by unfold Hid; rw [← HRN.out]; rfl
                        clear HRN HRS
                        go_wp2
                        go_meet
                        exact ⟨by rw [HV.out], rfl⟩
                      | false =>
                        rcases HLK.out with ⟨hi, rfl⟩ | ⟨hi, rfl, rfl⟩
                        · have HV : Hid (rn = true) := by unfold Hid; rw [← HRN.out]; unfold rmB; simp [hi]
                          clear hi
                          go_wp2
                          go_meet
                          exact ⟨by rw [HV.out], rfl⟩
                        · by_cases hke : b.key = key
                          · have kk : (b.key.toList == key.toList) = true := (Lib.bytes_beq_iff _ _).2 hke
                            have HV : Hid (rn = decide (b.items.length < c)) := by unfold Hid; rw [← HRN.out]; unfold rmB; simp [hi, hke]
                            clear hi hke
                            go_wp2
                            go_meet
                            exact ⟨by rw [HV.out], rfl⟩
                          · have kk : (b.key.toList == key.toList) = false := (Lib.bytes_beq_false_iff _ _).2 hke
                            have HV : Hid (rn = false) := by unfold Hid; rw [← HRN.out]; unfold rmB; simp [hi, hke]
                            clear hi hke
                            go_wp2
                            go_meet
                            exact ⟨by rw [HV.out], rfl⟩
                    case rest =>
                      obtain ⟨rfl, rfl⟩ := hcut
                      have HR3 : Hid (Rel3 wc item b.items t0 (.bool t0) (.int .i64 0) wc) := ⟨0, by omega, rfl, by simp, rfl⟩
                      go_wp2
                      go_loopg [14, 20] b.items.length (fun gj th m wr => ∃ j : Nat, gj = b.items.length - j ∧ j ≤ b.items.length ∧ m = .int .i64 j ∧ th = .bool (t0 || decide (item ∈ b.items.take j)) ∧ wr = wc)
                      case atStart => exact ⟨0, by omega, by omega, rfl, by simp, rfl⟩
                      case round =>
                        obtain ⟨j, hgj, hj, rfl, rfl, rfl⟩ := hrel
                        have HGJ := Lib.hid hgj
                        clear HR3 hgj
                        by_cases hjl : j < b.items.length
                        · obtain ⟨y, hy⟩ : ∃ y, b.items[j]? = some y := ⟨b.items[j], List.getElem?_eq_getElem hjl⟩
                          obtain ⟨g8, o8, hA8, cy, _⟩ := HC.out j y hy
                          subst hA8
                          have HM := Lib.hid (mem_step (item := item) hy)
                          have j2 : (j : Int) < (b.items.length : Int) := by omega
                          generalize htj : (t0 || decide (item ∈ b.items.take j)) = tj
                          have HTJ := Lib.hid htj
                          clear hy htj
                          by_cases hyi : y = item
                          · have ky : (y.toList == item.toList) = true := (Lib.bytes_beq_iff _ _).2 hyi
                            have HN : Hid ((t0 || decide (item ∈ b.items.take (j + 1))) = true) := by unfold Hid; rw [HM.out]; simp [hyi]
                            clear hyi
                            cases tj
                            all_goals
                              go_wp2
                              go_roundg (gk - 1)
                              case measure => have := HGJ.out; omega
                              case rel => exact ⟨j + 1, by have := HGJ.out; omega, by omega, by simp, by rw [HN.out], rfl⟩
                          · have ky : (y.toList == item.toList) = false := (Lib.bytes_beq_false_iff _ _).2 hyi
                            have HN : Hid ((t0 || decide (item ∈ b.items.take (j + 1))) = tj) := by unfold Hid; rw [HM.out, ← HTJ.out]; simp [hyi]
                            clear hyi
                            cases tj
                            all_goals
                              go_wp2
                              go_roundg (gk - 1)
                              case measure => have := HGJ.out; omega
                              case rel => exact ⟨j + 1, by have := HGJ.out; omega, by omega, by simp, by rw [HN.out], rfl⟩
                        · have hj2 : b.items.take j = b.items := List.take_of_length_le (by omega)
                          rw [hj2]
                          clear hj2
                          go_wp2
                          go_roundg (gO - 1)
                          case measure => have := HGK.out; rw [HLN.out] at this; omega
                          case rel => exact HE.out
                  · have hk2 : k = n := by omega
                    have HZ : Hid (tot (clr bs1 k) = 0) := by unfold Hid; rw [hk2, ← HLN.out]; exact clr_tot bs1
                    have hTE : thK item bs1 k = thK item bs1 bs1.length := by rw [hk2, HLN.out]
                    have hRE : rmK c key bs1 k = rmK c key bs1 bs1.length := by rw [hk2, HLN.out]
                    rw [hTE, hRE]
                    clear hTE hRE
                    rcases HP.out.ways with ⟨rfl, _⟩ | ⟨rfl, _, _, _, hw⟩ | ⟨rfl, _, _, _, hw⟩ | ⟨rfl, _, _, _, _, hw⟩
                    case inr.inl => rw [hw]; clear hw; generalize rmK c key bs1 bs1.length = rz; go_wp2_with fail; refine (h7.len_to HZ.out).mono ?_; rintro e w8 ⟨rfl, h8, _⟩; go_wp2_with fail; refine (awake_any _).mono ?_; rintro e w9 ⟨rfl, hb9⟩; go_wp2; go_ret; exact ⟨rfl, h8.sb.bel.trans (hb9.mono h8.sb.bel.size)⟩
                    case inr.inr.inl => rw [hw]; clear hw; generalize thK item bs1 bs1.length = rz; go_wp2_with fail; refine (h7.len_to HZ.out).mono ?_; rintro e w8 ⟨rfl, h8, _⟩; go_wp2_with fail; refine (awake_any _).mono ?_; rintro e w9 ⟨rfl, hb9⟩; go_wp2; go_ret; exact ⟨rfl, h8.sb.bel.trans (hb9.mono h8.sb.bel.size)⟩
                    case inr.inr.inr => rw [hw]; clear hw; generalize rmK c key bs1 bs1.length = rz; go_wp2_with fail; refine (h7.len_to HZ.out).mono ?_; rintro e w8 ⟨rfl, h8, _⟩; go_wp2_with fail; refine (awake_any _).mono ?_; rintro e w9 ⟨rfl, hb9⟩; go_wp2; go_ret; exact ⟨rfl, h8.sb.bel.trans (hb9.mono h8.sb.bel.size)⟩
                    case inl => generalize thK item bs1 bs1.length = tz; generalize rmK c key bs1 bs1.length = rz; go_wp2_with fail; refine (h7.len_to HZ.out).mono ?_; rintro e w8 ⟨rfl, h8, _⟩; go_wp2_with fail; refine (awake_any _).mono ?_; rintro e w9 ⟨rfl, hb9⟩; go_wp2; go_ret; exact ⟨rfl, h8.sb.bel.trans (hb9.mono h8.sb.bel.size)⟩

theorem own : ownKnob Try.prog.godebug = none := by kernel_rfl
theorem laidOut : laidOutB Try.prog = true := by kernel_rfl

set_option maxRecDepth 100000 in
theorem lifted (os : Os) (started : os.Started) (H : Type) (enc : TypeId × Value → H) :
    ReturnsInHanded {} Try.checked os 4 .any (Rows.sorterFillsSpec.pre6 enc Try.prog Try.f4 Rows.sorterFillsRow.domain false) (Rows.sorterFillsSpec.post enc Try.prog Try.f4 false true false false) := by
  refine returnsInHanded_of_change (C := Try.checked) own started (by kernel_rfl) Try.func4
    (ChangeSpec.witness6 (enc := enc) (C := Try.checked) false ⟨#[], #[.agg #[.int .i64 0, .int .i64 0, .slice none 0 0], .string ⟨#[]⟩, .string ⟨#[]⟩], []⟩ 8 (by kernel_rfl) (by kernel_rfl) (by kernel_rfl) (by kernel_rfl)) ?_
  intro W base args ds gs before hval0 hW hcnd _
  have hval : ∀ (j : Nat) t v, Try.f4.params[j]? = some t → args[j]? = some v → Value.okWide Try.prog W .any base t v := hval0
  have hW' := hW
  obtain ⟨p, q, hA0, hV, rfl, hfz, hnd⟩ := hW
  have hA : DataW.TrodAll enc Try.prog W 0 (fun _ => true) true Try.f4.params.toList args.toList ds p := hA0
  rw [Try.params4] at hA hval
  obtain ⟨v0, vs0, d0, ds0, p0, q0, hargs, rfl, rfl, h0, r0⟩ := trodAll_cons hA
  obtain ⟨v1, vs1, d1, ds1, p1, q1, rfl, rfl, rfl, h1, r1⟩ := trodAll_cons r0
  obtain ⟨v2, vs2, d2, ds2, p2, q2, rfl, rfl, rfl, h2, r2⟩ := trodAll_cons r1
  obtain ⟨rfl, rfl, rfl⟩ := trodAll_nil r2
  obtain rfl : args = #[v0, v1, v2] := by cases args; simp_all
  obtain ⟨rfl, rfl⟩ := trodVars_none hV
  have k0 := h0
  have lt0 : ∀ x ∈ p0, x.block < W.heap.size := by obtain ⟨m, hm⟩ := k0; exact DataW.trod_lt m _ _ _ hm
  have ok0 := hval 0 24 v0 rfl rfl
  obtain ⟨x0, rfl, hx0⟩ := open_script ok0 h0
  have k1 := h1
  have lt1 : ∀ x ∈ p1, x.block < W.heap.size := by obtain ⟨m, hm⟩ := k1; exact DataW.trod_lt m _ _ _ hm
  have ok1 := hval 1 9 v1 rfl rfl
  obtain ⟨s1, rfl, hs1⟩ := open_str ok1 h1
  have k2 := h2
  have lt2 : ∀ x ∈ p2, x.block < W.heap.size := by obtain ⟨m, hm⟩ := k2; exact DataW.trod_lt m _ _ _ hm
  have ok2 := hval 2 9 v2 rfl rfl
  obtain ⟨s2, rfl, hs2⟩ := open_str ok2 h2
  clear hA0 hval0
  refine (walk x0 s1 s2 W hx0 hs1 hs2).mono fun e W' ⟨he, bel⟩ => ?_
  subst he
  exact ⟨_, rfl, _, _, _, [], _, [], hW', trodAll_mk1 (shut_bool Try.underlying4 _), (trodAll_cons_mk (Below.trod laidOut (by kernel_rfl) (of_decide_eq_true (by kernel_rfl)) k0 bel lt0) (trodAll_cons_mk (Below.trod laidOut (by kernel_rfl) (of_decide_eq_true (by kernel_rfl)) k1 bel lt1) (trodAll_cons_mk (Below.trod laidOut (by kernel_rfl) (of_decide_eq_true (by kernel_rfl)) k2 bel lt2) trodAll_mk0))), rfl, bel.frame _, fun h => by cases h⟩

theorem over : Rows.sorterFillsRow.holds Try.pinned (OpenSpec.ofChange Rows.sorterFillsSpec) :=
  OpenClaim.holds_of_wide 4 Try.f4 rfl rfl rfl rfl rfl rfl rfl ⟨rfl, rfl, rfl, rfl, rfl⟩ rfl rfl rfl rfl rfl (by kernel_rfl) Try.func4 (by kernel_rfl)
    (of_decide_eq_true (by kernel_rfl)) (by unfold Func.isWrapper; first | (rw [if_pos (by decide +kernel)]; kernel_rfl) | (rw [if_neg (by decide +kernel)]; exact ⟨rfl, rfl⟩))
    (fun os started H enc _ => lifted os started H enc)

theorem proved : Rows.SorterFillsSaid := over
end Go.Proofs.Yteokognbnilkmaa.sorterFills
