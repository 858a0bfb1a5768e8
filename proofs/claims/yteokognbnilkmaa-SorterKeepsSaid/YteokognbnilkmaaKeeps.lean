/-
  SorterKeeps returns true for every script.
-/
import Derived.Test.YteokognbnilkmaaKeepa
namespace Go.Proofs.Yteokognbnilkmaa.sorterKeeps
open Go.ChangeShapes Go.WideShapes Go.ChangeAt Go.RowKit

theorem info33 : (Try.prog.info? 33).map (fun i => (i.zero, i.size, i.bytes)) = some (some (.agg #[.int .u8 0, .string nul, .string nul, .int .i64 0]), 4, 48) := by kernel_rfl
theorem info37 : (Try.prog.info? 37).map (fun i => (i.zero, i.size, i.bytes)) = some (some (.agg #[.string nul, .string nul, .int .i64 0]), 3, 40) := by kernel_rfl
theorem own_empty33 (w : World) : (w.alloc (.cells #[] 33)).ownsRow w.heap.size 33 4 (.slice (some ⟨w.heap.size, 0, none⟩) 0 0) 0 [] := World.ownsRow_lit w #[] 0 (Nat.le_refl _) (Nat.zero_le _) rfl
/-- The operations that take all bins. -/
def tks (k : Nat) : List OpD := (List.range k).map fun (i : Nat) => (⟨1, nul, nul, (i : Int)⟩ : OpD)
theorem tks_succ (k : Nat) : tks (k + 1) = tks k ++ [⟨1, nul, nul, (k : Int)⟩] := by unfold tks; rw [List.range_succ, List.map_append]; rfl
theorem tks_len (k : Nat) : (tks k).length = k := by simp [tks]
theorem cellsO_app (s t : List OpD) : cellsO (s ++ t) = cellsO s ++ cellsO t := by simp [cellsO]
theorem cellsP_app (s t : List Pt) : cellsP (s ++ t) = cellsP s ++ cellsP t := by simp [cellsP]

theorem sx_growK {w0 W W' : World} {K S : Nat → Prop} {x : ScD} {g b c : Nat} {bs : Bins} (h : SX w0 K x W g b c bs) (hf : Fr S W W') (hS : ∀ i, S i → K i ∧ w0.heap.size ≤ i) (hh : ¬ S w0.heap.size) : SX w0 (fun i => K i ∨ (W.heap.size ≤ i ∧ i < W'.heap.size)) x W' g b c bs :=
  ⟨h.sb.growK hf hS, h.box.fr hf hh, .inl h.kh, h.wf⟩
theorem sx_grow {w0 W W' : World} {K : Nat → Prop} {x : ScD} {g b c : Nat} {bs : Bins} (h : SX w0 K x W g b c bs) (hs : Same W W') : SX w0 (fun i => K i ∨ (W.heap.size ≤ i ∧ i < W'.heap.size)) x W' g b c bs := sx_growK h hs (fun _ x => x.elim) (fun x => x)

def Rel1 (w2 : World) (xs : List OpD) (n len : Nat) (v i : Value) (wr : World) : Prop :=
  ∃ k : Nat, k ≤ n ∧ i = .int .i64 k ∧ wr.ownsRow w2.heap.size 33 4 v (len + k) (cellsO (xs ++ tks k)) ∧ Same w2 wr
theorem rel1_next {w2 wr w3 : World} {xs : List OpD} {n len k : Nat} {v v' : Value} (hk : k < n) (hown : wr.ownsRow w2.heap.size 33 4 v (len + k) (cellsO (xs ++ tks k))) (hs : Same w2 wr)
    (h1 : w3.ownsRow w2.heap.size 33 4 v' (len + k + 1) (cellsO (xs ++ tks k) ++ [.int .u8 1, .string nul, .string nul, .int .i64 k])) (hg : (wr.alloc (.cells #[.int .u8 1, .string nul, .string nul, .int .i64 k] 33)).grownBy w3 v.ownBlock) : Rel1 w2 xs n len v' (.int .i64 ((k : Int) + 1)) w3 := by
  refine ⟨k + 1, by omega, by simp, ?_, same_grown (Fr.alloc hs _) hg (fun g hgg => own_base hown hgg)⟩
  rw [tks_succ, ← List.append_assoc, cellsO_app]
  exact h1

def R2 (w : World) (X : ScD) (g b c n : Nat) (vops : Value) (m : Nat) (ys : List OpD) (len : Nat) (vin i : Value) (wr : World) : Prop :=
  ∃ (k : Nat) (K : Nat → Prop) (bs : Bins) (ps : List Pt), k ≤ m ∧ i = .int .i64 k ∧ SX w K X wr g b c bs ∧ Inv bs ps ∧ wr.ownsRow w.heap.size 33 4 vops m (cellsO ys) ∧ (∀ i, vops.ownBlock = some i → K i) ∧ wr.ownsRow w.heap.size 37 3 vin ps.length (cellsP ps) ∧
    (∀ i, vin.ownBlock = some i → K i ∧ i ≠ w.heap.size) ∧ bs.length = n ∧ ∀ (j : Nat) (b : Bin), j + len < k → bs[j]? = some b → b.items = []

section
variable {w w5 w6 : World} {X : ScD} {g b c n m len k : Nat} {vops vin v' : Value} {ys : List OpD} {K : Nat → Prop} {bs bs1 : Bins} {ps : List Pt}
theorem r2_put {key item : Bs} {i : Nat} (hk : k < m) (hl : k < len) (h5 : SX w K X w5 g b c bs1) (hp : sPut c bs key item = (bs1, i, 0)) (inv : Inv bs ps) (hbn : bs.length = n) (ho : w5.ownsRow w.heap.size 33 4 vops m (cellsO ys)) (ko : ∀ i, vops.ownBlock = some i → K i) (hin : w5.ownsRow w.heap.size 37 3 vin ps.length (cellsP ps))
    (ki : ∀ i, vin.ownBlock = some i → K i ∧ i ≠ w.heap.size) (hown : w6.ownsRow w.heap.size 37 3 v' (ps.length + 1) (cellsP ps ++ [.string key, .string item, .int .i64 (i : Nat)])) (hgr : (w5.alloc (.cells #[.string key, .string item, .int .i64 (i : Nat)] 37)).grownBy w6 vin.ownBlock)
    (hat : v'.ownBlock = vin.ownBlock ∨ v'.ownBlock = some (w5.alloc (.cells #[.string key, .string item, .int .i64 (i : Nat)] 37)).heap.size) : R2 w X g b c n vops m ys len v' (.int .i64 ((k : Int) + 1)) w6 := by
  have f : Fr (fun i => vin.ownBlock = some i) w5 w6 := ((Fr.refl _ _).alloc _).trans (Fr.of_row hgr)
  have h6 := sx_growK h5 f (fun i hi => ⟨(ki i hi).1, (own_lt hin hi).1⟩) (fun e => (ki _ e).2 rfl)
  have hz : (w5.alloc (.cells #[.string key, .string item, .int .i64 (i : Nat)] 37)).heap.size = w5.heap.size + 1 := by simp
  have hbs := h5.sb.bel.size
  have hkl := h5.sb.kl _ h5.kh
  refine ⟨k + 1, _, bs1, ps ++ [⟨key, item, i⟩], by omega, by simp, h6, inv_put inv hp, own_fr ho f (fun i hi e => own_own_ne ho hin (by decide) hi e), fun i hi => .inl (ko i hi), ?_, fun i hi => ?_, ?_, fun j b hj hb => by omega⟩
  · rw [cellsP_app, List.length_append]
    exact hown
  · have hlt6 := (own_lt hown hi).2
    rcases hat with e | e
    · rw [e] at hi
      exact ⟨.inl (ki i hi).1, (ki i hi).2⟩
    · rw [e, hz] at hi
      simp only [Option.some.injEq] at hi
      exact ⟨.inr ⟨by omega, hlt6⟩, by omega⟩
  · obtain ⟨b0, _, e, _⟩ := put_spec hp
    rw [e, putAt_len]
    exact hbn
theorem r2_skip (hk : k < m) (hl : k < len) (h5 : SX w K X w5 g b c bs) (inv : Inv bs ps) (hbn : bs.length = n) (ho : w5.ownsRow w.heap.size 33 4 vops m (cellsO ys)) (ko : ∀ i, vops.ownBlock = some i → K i) (hin : w5.ownsRow w.heap.size 37 3 vin ps.length (cellsP ps))
    (ki : ∀ i, vin.ownBlock = some i → K i ∧ i ≠ w.heap.size) : R2 w X g b c n vops m ys len vin (.int .i64 ((k : Int) + 1)) w5 :=
  ⟨k + 1, K, bs, ps, by omega, by simp, h5, inv, ho, ko, hin, ki, hbn, fun j b hj hb => by omega⟩
theorem r2_take {key : Bs} {xs : List Bs} {e i : Int} (hk : k < m) (hkl : len ≤ k → i = ((k - len : Nat) : Int)) (h5 : SX w K X w5 g b c bs1) (ht : TakeK bs ps i bs1 key xs e) (hbn : bs.length = n) (hz : ∀ (j : Nat) (b : Bin), j + len < k → bs[j]? = some b → b.items = []) (ho : w5.ownsRow w.heap.size 33 4 vops m (cellsO ys)) (ko : ∀ i, vops.ownBlock = some i → K i)
    (hs : Same w5 w6) (hown : w6.ownsRow w5.heap.size 37 3 v' (rst ps i).length (cellsP (rst ps i))) : R2 w X g b c n vops m ys len v' (.int .i64 ((k : Int) + 1)) w6 := by
  have h6 := sx_grow h5 hs
  have hbs := h5.sb.bel.size
  have hkl5 := h5.sb.kl _ h5.kh
  refine ⟨k + 1, _, bs1, rst ps i, by omega, by simp, h6, ht.inv, own_fr ho hs (fun _ _ x => x), fun i hi => .inl (ko i hi), ?_, fun j hj => ?_, ht.len.trans hbn, fun j b hj hb => ?_⟩
  · obtain ⟨a, b | ⟨g', cap, cur, e, hb, hr⟩⟩ := hown
    · exact ⟨a, .inl b⟩
    · exact ⟨a, .inr ⟨g', cap, cur, e, Nat.le_trans hbs hb, hr⟩⟩
  · have := own_lt hown hj
    exact ⟨.inr this, by omega⟩
  · have hjl : j < bs.length := by have := (List.getElem?_eq_some_iff.1 hb).1; rw [ht.len] at this; exact this
    refine ht.none_ j b hb ?_
    by_cases e : j + len < k
    · exact .inl ⟨bs[j], List.getElem?_eq_getElem hjl, hz j _ e (List.getElem?_eq_getElem hjl)⟩
    · right
      have := hkl (by omega)
      omega
end
/-- What holds at the head of each round of the third loop. -/
def R3 (w5 : World) (ps : List Pt) (i : Int) (vr at_ j : Value) (wr : World) : Prop :=
  ∃ k : Nat, k ≤ ps.length ∧ j = .int .i64 k ∧ at_ = .int .i64 ((sel (ps.take k) i).length : Nat) ∧ wr.ownsRow w5.heap.size 37 3 vr (rst (ps.take k) i).length (cellsP (rst (ps.take k) i)) ∧ Same w5 wr
theorem r3_rest {w5 wr w6 : World} {ps : List Pt} {i : Int} {k : Nat} {vr v' : Value} {p : Pt} (hp : ps[k]? = some p) (hne : (p.bin : Int) ≠ i) (hown : wr.ownsRow w5.heap.size 37 3 vr (rst (ps.take k) i).length (cellsP (rst (ps.take k) i))) (hs : Same w5 wr)
    (h1 : w6.ownsRow w5.heap.size 37 3 v' ((rst (ps.take k) i).length + 1) (cellsP (rst (ps.take k) i) ++ [.string p.key, .string p.item, .int .i64 p.bin])) (hg : (wr.alloc (.cells #[.string p.key, .string p.item, .int .i64 p.bin] 37)).grownBy w6 vr.ownBlock) : R3 w5 ps i v' (.int .i64 ((sel (ps.take k) i).length : Nat)) (.int .i64 ((k : Int) + 1)) w6 := by
  have hk := (List.getElem?_eq_some_iff.1 hp).1
  refine ⟨k + 1, by omega, by simp, by rw [sel_take hp, if_neg hne], ?_, same_grown (Fr.alloc hs _) hg (fun g hgg => own_base hown hgg)⟩
  rw [rst_take hp, if_neg hne, cellsP_app, List.length_append]
  exact h1
theorem r3_at {w5 wr : World} {ps : List Pt} {i : Int} {k : Nat} {vr : Value} {p : Pt} (hp : ps[k]? = some p) (he : (p.bin : Int) = i) (hown : wr.ownsRow w5.heap.size 37 3 vr (rst (ps.take k) i).length (cellsP (rst (ps.take k) i))) (hs : Same w5 wr) (q : Nat) :
    R3 w5 ps i vr (.int .i64 (((sel (ps.take k) i).length : Int) + 1)) (.int .i64 ((k : Int) + 1)) (wr.drewN q) := by
  have hk := (List.getElem?_eq_some_iff.1 hp).1
  refine ⟨k + 1, by omega, by simp, by rw [sel_take hp, if_pos he]; simp, ?_, Fr.drewN hs q⟩
  rw [rst_take hp, if_pos he]
  exact hown

set_option maxRecDepth 100000 in
set_option maxHeartbeats 8000000 in
theorem walk (x : ScD) (w : World) (hx : x.Wf w) : Calls Try.prog 3 #[x.agg] w fun e w' => e = .returned (.bool true) ∧ Below w.heap.size w w' := by
  obtain ⟨i0, hi0, hz0, hz1, hz2⟩ := info_parts info33
  obtain ⟨p0, hpi, hpz0, hpz1, hpz2⟩ := info_parts info37
  obtain ⟨bn, cp, A, len, scap, xs⟩ := x
  have hal : Same w (w.alloc (.cells (ScD.cells ⟨bn, cp, A, len, scap, xs⟩) 24)) := (Fr.refl _ _).alloc _
  have HX := Lib.hid hx
  have HX0 := Lib.hid (ScD.Wf.same hx hal)
  have hml := hx.ops.2.1
  have hxl := hx.ops.1
  simp only at hml hxl
  clear hx
  unfold ScD.agg
  simp only
  unfold ScD.cells at hal
  simp only at hal
  go_enter Try.func3, Try.ntmps3
  go_wp2_with fail
  refine (small_any ⟨bn, cp, A, len, scap, xs⟩ _ HX0.out).mono ?_
  rintro e w1 ⟨bb, rfl, s1, hb⟩
  simp only at hb
  have bx := (Blk.new w 24 (ScD.cells ⟨bn, cp, A, len, scap, xs⟩)).fr s1 (fun x => x)
  have b0 : w1.cell? ⟨w.heap.size, 0, none⟩ = some (.int .i64 bn) := bx.cell 0
  have b1 : w1.cell? ⟨w.heap.size, 1, none⟩ = some (.int .i64 cp) := bx.cell 1
  have t1 : Same w w1 := Fr.trans hal s1
  have HS1 := Lib.hid s1
  clear hal bx s1
  cases bb with
  | false =>
    clear hb
    go_wp2_with fail
    refine (awake_any _).mono ?_
    rintro e w9 ⟨rfl, hb9⟩
    go_wp2
    go_ret
    exact ⟨rfl, t1.below.trans (hb9.mono t1.size)⟩
  | true =>
    have hlen := hb rfl
    clear hb
    by_cases hbad : NewBad bn cp
    · go_wp2_with fail
      refine (new_bad bn cp _ hbad).mono ?_
      rintro e w' ⟨rfl, rfl⟩
      go_wp2_with fail
      refine (awake_any _).mono ?_
      rintro e w9 ⟨rfl, hb9⟩
      go_wp2
      go_ret
      exact ⟨rfl, t1.below.trans (hb9.mono t1.size)⟩
    · have hg : (1 ≤ bn ∧ bn ≤ 16) ∧ 1 ≤ cp ∧ cp ≤ 32 := by unfold NewBad at hbad; omega
      obtain ⟨⟨g1, g2⟩, g3, g4⟩ := hg
      obtain ⟨n, rfl⟩ : ∃ k : Nat, bn = (k : Int) := ⟨bn.toNat, by omega⟩
      obtain ⟨c, rfl⟩ : ∃ k : Nat, cp = (k : Int) := ⟨cp.toNat, by omega⟩
      clear hbad
      go_wp2_with fail
      refine (sx_new ⟨(n : Int), (c : Int), A, len, scap, xs⟩ HX.out HS1.out n c (by omega) (by omega) (by omega) (by omega)).mono ?_
      rintro e w2 ⟨rfl, h2⟩
      generalize hX : (⟨(n : Int), (c : Int), A, len, scap, xs⟩ : ScD) = X at HX HX0 h2
      have EX : Hid (X.bins = (n : Int) ∧ X.cap = (c : Int) ∧ X.A = A ∧ X.len = len ∧ X.scap = scap ∧ X.xs = xs) := by rw [← hX]; exact ⟨rfl, rfl, rfl, rfl, rfl, rfl⟩
      have A2 : Hid (∀ (K : Nat → Prop) (W : World) (g b : Nat) (bs : Bins), SX w K X W g b c bs → W.cell? ⟨w.heap.size, 2, none⟩ = some (.slice A len scap)) := fun K W g b bs h => by
        have := h.at2
        rw [EX.out.2.2.1, EX.out.2.2.2.1, EX.out.2.2.2.2.1] at this
        exact this
      have A1 : Hid (∀ (K : Nat → Prop) (W : World) (g b : Nat) (bs : Bins), SX w K X W g b c bs → W.cell? ⟨w.heap.size, 1, none⟩ = some (.int .i64 c)) := fun K W g b bs h => by
        have := h.at1
        rw [EX.out.2.1] at this
        exact this
      have A0 : Hid (∀ (K : Nat → Prop) (W : World) (g b : Nat) (bs : Bins), SX w K X W g b c bs → W.cell? ⟨w.heap.size, 0, none⟩ = some (.int .i64 n)) := fun K W g b bs h => by
        have := h.at0
        rw [EX.out.1] at this
        exact this
      clear hX b0 b1 HX0 HX t1
      have d0 := A0.out _ _ _ _ _ h2
      have d2 := A2.out _ _ _ _ _ h2
      have HRD : Hid (Reads w2 w2.heap.size 4 A len (cellsO xs)) := by
        have := h2.ops.reads
        rw [EX.out.2.2.1, EX.out.2.2.2.1, EX.out.2.2.2.2.2] at this
        exact this
      have hb2 := h2.sb.bel.size
      have hbx := h2.box.lt
      have H2 := Lib.hid h2
      clear h2
      generalize w1.heap.size = hb1 at H2
      go_wp2_with (at_builtin; refine wpList_append_any _ rfl _ _ 22 rfl w2.heap.size 33 i0 _ 4 48 Try.underlying22 hi0 hz0 hz1 hz2 rfl (by decide) _ 0 [] rfl (own_empty33 w2) w2.heap.size A len scap (cellsO xs) rfl (HRD.out.alloc (Nat.le_refl _) _) (cellsO_one xs) (by unfold maxLen; omega) (by omega) (by simp) ?_; intro v3 w3 hown' hgrow hat; have S3 : Same w2 w3 := same_grown ((Same.refl w2).alloc _) hgrow (fun g hg => own_base (own_empty33 w2) hg); have HR1 : Hid (Rel1 w2 xs n len v3 (.int .i64 0) w3) := ⟨0, by omega, rfl, by simpa [tks] using hown', S3⟩; have d0' := A0.out _ _ _ _ _ (H2.out.same S3); clear hown' hgrow hat d0 d2)
      go_loopw [6, 7] (fun v i wr => Rel1 w2 xs n len v i wr) (fun _ i _ => n - (intOf i).toNat)
      case atStart => exact HR1.out
      case round =>
        obtain ⟨k, hk, rfl, hown, hs⟩ := hrel
        clear HR1 d0' S3
        have d0 := A0.out _ _ _ _ _ (H2.out.same hs)
        have hss := hs.size
        by_cases hlt : k < n
        · have hlt2 : (k : Int) < (n : Int) := by omega
          have HN := Lib.hid (fun w3 v' a1 a2 => rel1_next (w3 := w3) (v' := v') hlt hown hs a1 a2)
          go_wp2_with (at_builtin; refine wpList_append_any _ rfl _ _ 22 rfl w2.heap.size 33 i0 _ 4 48 Try.underlying22 hi0 hz0 hz1 hz2 rfl (by decide) _ _ _ rfl (hown.alloc _) (wr.heap.size + 1) (some ⟨wr.heap.size, 0, none⟩) 1 1 [.int .u8 1, .string nul, .string nul, .int .i64 k] rfl (reads_row wr 33 [.int .u8 1, .string nul, .string nul, .int .i64 k] rfl) (cellsO_one [⟨1, nul, nul, k⟩]) (by unfold maxLen; omega) (by omega) (by simp; omega) ?_; intro v' w4 hown' hgrow hat; have HE := Lib.hid (HN.out w4 v' hown' hgrow); clear hown' hgrow hat)
          go_roundw
          case rel => exact HE.out
          case measure => simp [intOf]; omega
        · have hkn : k = n := by omega
          subst hkn
          have h4 := H2.out.same hs
          obtain ⟨Ao, co, rfl, hml2, hcells⟩ := row_formN hown
          have HC := Lib.hid hcells
          have HYL : Hid ((xs ++ tks k).length = len + k) := by unfold Hid; rw [List.length_append, tks_len]; omega
          have HKD : Hid (∀ (j : Nat) (y : OpD), (xs ++ tks k)[j]? = some y → len ≤ j → y.kind = 1 ∧ y.bin = ((j - len : Nat) : Int)) := fun j y hy hj => by
            rw [List.getElem?_append_right (by omega), hxl] at hy
            unfold tks at hy
            rw [List.getElem?_map] at hy
            have hjl : j - len < k := by
              rcases Nat.lt_or_ge (j - len) k with h | h
              · exact h
              · rw [List.getElem?_eq_none (by simpa using h)] at hy; cases hy
            rw [List.getElem?_range hjl] at hy
            cases hy
            exact ⟨rfl, rfl⟩
          generalize xs ++ tks k = ys at hown HC HYL HKD
          have hg4 := sx_grow H2.out hs
          have HR2 : Hid (R2 w X (hb1 + 1) hb1 c k (.slice Ao (len + k) co) (len + k) ys len (.slice none 0 0) (.int .i64 0) wr) := by
            refine ⟨0, _, _, [], by omega, rfl, hg4, inv_new k, ?_, fun i hi => .inr (own_lt hown hi), ⟨rfl, .inl ⟨rfl, rfl⟩⟩, fun i hi => by simp [Value.ownBlock] at hi, by simp, fun j b hj => by omega⟩
            obtain ⟨a, b | ⟨g', cap, cur, e, hb, hr⟩⟩ := hown
            · exact ⟨a, .inl b⟩
            · exact ⟨a, .inr ⟨g', cap, cur, e, by have := H2.out.sb.bel.size; omega, hr⟩⟩
          clear hg4 h4 hcells hown hs hss
          obtain ⟨wo, hwo⟩ : ∃ wo : World, wo = wr := ⟨_, rfl⟩
          subst hwo
          have hlk : ((len + k : Nat) : Int) = (len : Int) + (k : Int) := by omega
          clear H2 HRD
          go_wp2
          go_loopw [5, 8] (fun vin i wr => R2 w X (hb1 + 1) hb1 c k (.slice Ao (len + k) co) (len + k) ys len vin i wr) (fun _ i _ => len + k - (intOf i).toNat)
          case atStart => exact HR2.out
          case round =>
            obtain ⟨q, K, bs, ps, hq, rfl, h5, inv, ho, ko, hin, ki, hbn, hz⟩ := hrel
            clear HR2 d0
            have hpt := inv.len
            have htl : tot bs ≤ 512 := Nat.le_trans (tot_le bs h5.ok.le) (Nat.mul_le_mul h5.ok.n2 h5.ok.c2)
            have hpl : ps.length ≤ 512 := by omega
            have hpl2 : (ps.length : Int) ≤ 512 := by omega
            have HPT := Lib.hid hpt
            have HBN := Lib.hid hbn
            have HZ := Lib.hid hz
            have INV := Lib.hid inv
            clear hpt hbn hz inv
            by_cases hlt : q < len + k
            · obtain ⟨y, hy⟩ : ∃ y, ys[q]? = some y := ⟨ys[q]'(by rw [HYL.out]; exact hlt), List.getElem?_eq_getElem _⟩
              obtain ⟨c0, c1, c2, c3⟩ := cellsO_get ys q y hy
              obtain ⟨A', co', he', _, hcl⟩ := row_formN ho
              simp only [Value.slice.injEq, true_and] at he'
              obtain ⟨rfl, rfl⟩ := he'
              obtain ⟨gi, rfl, e0, _, _⟩ := hcl _ _ c0
              obtain ⟨_, hgi, e1, _, _⟩ := hcl _ _ c1
              cases hgi
              obtain ⟨_, hgi, e2, _, _⟩ := hcl _ _ c2
              cases hgi
              obtain ⟨_, hgi, e3, _, _⟩ := hcl _ _ c3
              cases hgi
              have hal : Same wr (wr.alloc (.cells #[.int .u8 y.kind, .string y.key, .string y.item, .int .i64 y.bin] 33)) := (Fr.refl _ _).alloc _
              have bo := Blk.new wr 33 #[.int .u8 y.kind, .string y.key, .string y.item, .int .i64 y.bin]
              obtain ⟨K6, hK6⟩ : ∃ K6 : Nat → Prop, K6 = fun i => K i ∨ (wr.heap.size ≤ i ∧ i < (wr.alloc (.cells #[.int .u8 y.kind, .string y.key, .string y.item, .int .i64 y.bin] 33)).heap.size) := ⟨_, rfl⟩
              have h6 : SX w K6 X (wr.alloc (.cells #[.int .u8 y.kind, .string y.key, .string y.item, .int .i64 y.bin] 33)) (hb1 + 1) hb1 c bs := by rw [hK6]; exact sx_grow h5 hal
              have ho6 := own_fr ho hal (fun _ _ x => x)
              have hin6 := own_fr hin hal (fun _ _ x => x)
              have KO : Hid (∀ i, (Value.slice (some ⟨gi, 0, none⟩) (len + k) co).ownBlock = some i → K6 i) := by rw [hK6]; exact fun i hi => .inl (ko i hi)
              have KI : Hid (∀ i, u5.ownBlock = some i → K6 i ∧ i ≠ w.heap.size) := by rw [hK6]; exact fun i hi => ⟨.inl (ki i hi).1, (ki i hi).2⟩
              have KB : Hid (K6 wr.heap.size) := by rw [hK6]; exact .inr ⟨Nat.le_refl _, by simp⟩
              have OKB := Lib.hid h5.ok
              have HY := Lib.hid hy
              clear hK6 ko ki h5 ho hin hal c0 c1 c2 c3 hcl hy
              by_cases hk0 : y.kind = 0
              · have hql : q < len := by
                  rcases Nat.lt_or_ge q len with h | h
                  · exact h
                  · have := (HKD.out q y HY.out h).1; omega
                obtain ⟨bs1, i, e, hp⟩ : ∃ bs1 i e, sPut c bs y.key y.item = (bs1, i, e) := ⟨_, _, _, rfl⟩
                have HP := Lib.hid hp
                have t0 : (y.kind == 0) = true := by simp [hk0]
                clear hp hk0
                go_wp2_with fail
                refine (h6.put_to HP.out).mono ?_
                rintro e9 w7 ⟨rfl, h7, f7⟩
                have bo7 := bo.fr f7 (fun hn => hn KB.out)
                have d1 := bo7.cell 1
                have d2 := bo7.cell 2
                simp at d1 d2
                have ho7 := own_fr ho6 f7 (fun i hi hn => hn (KO.out i hi))
                have hin7 := own_fr hin6 f7 (fun i hi hn => hn (KI.out i hi).1)
                have hb7 := h7.sb.bel.size
                clear h6 ho6 hin6 bo bo7 f7 e0 e1 e2 e3
                by_cases he : e = 0
                · subst he
                  have HN := Lib.hid (fun w8 v' a1 a2 a3 => r2_put (w6 := w8) (v' := v') hlt hql h7 HP.out INV.out HBN.out ho7 KO.out hin7 KI.out a1 a2 a3)
                  clear h7 ho7
                  go_wp2_with (at_builtin; refine wpList_append_any _ rfl _ _ 31 rfl w.heap.size 37 p0 _ 3 40 Try.underlying31 hpi hpz0 hpz1 hpz2 rfl (by decide) _ _ _ rfl (hin7.alloc _) (w7.heap.size + 1) (some ⟨w7.heap.size, 0, none⟩) 1 1 [.string y.key, .string y.item, .int .i64 (i : Nat)] rfl (reads_row w7 37 [.string y.key, .string y.item, .int .i64 (i : Nat)] rfl) (cellsP_one [⟨y.key, y.item, i⟩]) (by unfold maxLen; omega) (by omega) (by simp; omega) ?_; intro v' w8 hown' hgrow hat; have HE := Lib.hid (HN.out w8 v' hown' hgrow hat); clear hown' hgrow hat)
                  go_roundw
                  case rel => exact HE.out
                  case measure => simp [intOf]; omega
                · have ebs : bs1 = bs := by
                    rcases sPut_cases OKB.out y.key y.item with ⟨e', he'⟩ | ⟨i', b', _, _, he'⟩
                    · rw [HP.out] at he'; cases he'; rfl
                    · rw [HP.out] at he'; cases he'; exact absurd rfl he
                  subst ebs
                  have ke : (e == 0) = false := by simp [he]
                  have HE := Lib.hid (r2_skip hlt hql h7 INV.out HBN.out ho7 KO.out hin7 KI.out)
                  clear he h7 ho7 hin7
                  go_wp2
                  go_roundw
                  case rel => exact HE.out
                  case measure => simp [intOf]; omega
              · obtain ⟨bs1, kk, ls, e, htk⟩ := take_known INV.out y.bin
                have HTK := Lib.hid htk
                have t0 : (y.kind == 0) = false := by simp [hk0]
                have hll : ls.length ≤ 512 := by
                  have := congrArg List.length htk.fit
                  simp at this
                  have := sel_le ps y.bin
                  omega
                have hll2 : (ls.length : Int) ≤ 512 := by omega
                clear htk hk0
                go_wp2_with fail
                refine (h6.take_to HTK.out.take).mono ?_
                rintro e9 w7 ⟨A7, c7, rfl, r7, f7, h7, n7⟩
                have bo7 := bo.fr f7 (fun hn => hn KB.out)
                have ho7 := own_fr ho6 f7 (fun i hi hn => hn (KO.out i hi))
                have hin7 := own_fr hin6 f7 (fun i hi hn => hn (KI.out i hi).1)
                obtain ⟨Ain, cin, hvin, _, hicl⟩ := row_formN hin7
                subst hvin
                have BO := Lib.hid bo7
                have HIC := Lib.hid hicl
                have HRS := Lib.hid r7
                have HR3 : Hid (R3 w7 ps y.bin (.slice none 0 0) (.int .i64 0) (.int .i64 0) w7) := ⟨0, by omega, rfl, rfl, ⟨rfl, .inl ⟨rfl, rfl⟩⟩, Same.refl _⟩
                have HEND := Lib.hid (fun w8 v' a1 a2 => r2_take (w6 := w8) (v' := v') hlt (fun h => (HKD.out q y HY.out h).2) h7 HTK.out HBN.out HZ.out ho7 (fun i hi => .inl (KO.out i hi)) a1 a2)
                have H7 := Lib.hid h7
                clear h6 h7 ho6 hin6 hin7 ho7 bo bo7 f7 e0 e1 e2 e3 n7 hicl r7
                obtain ⟨wq, hwq⟩ : ∃ wq : World, wq = wr := ⟨_, rfl⟩
                subst hwq
                go_wp2
                go_loopw [15, 16, 17] (fun vr a j wr => R3 w7 ps y.bin vr a j wr) (fun _ _ j _ => ps.length - (intOf j).toNat)
                case atStart => exact HR3.out
                case round =>
                  obtain ⟨j, hj, rfl, rfl, hown, hs⟩ := hrel
                  clear HR3
                  obtain ⟨Ar, cr, hvr, _, _⟩ := row_formN hown
                  subst hvr
                  have sl := sel_le (ps.take j) y.bin
                  have rl := rst_le (ps.take j) y.bin
                  rw [List.length_take] at sl rl
                  have bs3 := (BO.out.fr hs (fun x => x)).cell 3
                  simp at bs3
                  have hss := hs.size
                  by_cases hjl : j < ps.length
                  · obtain ⟨p, hp⟩ : ∃ p, ps[j]? = some p := ⟨ps[j], List.getElem?_eq_getElem hjl⟩
                    obtain ⟨q0, q1, q2⟩ := cellsP_get ps j p hp
                    obtain ⟨gp, rfl, f0, _, _⟩ := HIC.out _ _ q0
                    obtain ⟨_, hgp, f1, _, _⟩ := HIC.out _ _ q1
                    cases hgp
                    obtain ⟨_, hgp, f2, _, _⟩ := HIC.out _ _ q2
                    cases hgp
                    replace f0 := same_cell hs f0
                    replace f1 := same_cell hs f1
                    replace f2 := same_cell hs f2
                    have j1 : (0 : Int) ≤ (j : Int) := by omega
                    have j2 : (j : Int) < (ps.length : Int) := by omega
                    clear q0 q1 q2
                    by_cases hbn2 : (p.bin : Int) = y.bin
                    · have hsa := sel_at hp hbn2
                      have hfit := HTK.out.fit
                      have hlk : ls[(sel (ps.take j) y.bin).length]? = some p.item ∧ kk = p.key := by
                        have h1 : ((sel ps y.bin).map Pt.ki)[(sel (ps.take j) y.bin).length]? = some p.ki := by rw [List.getElem?_map, hsa]; rfl
                        rw [hfit, List.getElem?_map, Option.map_eq_some_iff] at h1
                        obtain ⟨z, hz1, hz2⟩ := h1
                        unfold Pt.ki at hz2
                        cases hz2
                        exact ⟨hz1, rfl⟩
                      obtain ⟨hl1, hl2⟩ := hlk
                      obtain ⟨gl, ol, hA7, cl, _⟩ := (HRS.out.same hs).2.2 _ _ hl1
                      subst hA7
                      have hal : (sel (ps.take j) y.bin).length < ls.length := (List.getElem?_eq_some_iff.1 hl1).1
                      have hal2 : ((sel (ps.take j) y.bin).length : Int) < (ls.length : Int) := by omega
                      have hal3 : (0 : Int) ≤ ((sel (ps.take j) y.bin).length : Int) := by omega
                      have hez : e = 0 := HTK.out.code (fun e9 => by rw [e9] at hsa; simp at hsa)
                      have HN := Lib.hid (fun m => r3_at hp hbn2 hown hs m)
                      subst hez
                      subst hl2
                      have hbe : ((p.bin : Int) != y.bin) = false := by simp [hbn2]
                      have HBE := Lib.hid hbn2
                      have hbq : ((p.bin : Int) == y.bin) = true := by simp [hbn2]
                      clear hsa hfit hl1 hp hbn2 hown
                      go_wp2
                      go_quiet (fail)
                      go_wp2
                      go_quiet (fail)
                      go_wp2
                      go_roundw
                      case rel => exact HN.out _
                      case measure => simp [intOf]; omega
                    · have HN := Lib.hid (fun m w8 v' a1 a2 => r3_rest (wr := wr.drewN m) (w6 := w8) (v' := v') hp hbn2 hown (Fr.drewN hs m) a1 a2)
                      have hbe : ((p.bin : Int) != y.bin) = true := by simp [hbn2]
                      have hbq : ((p.bin : Int) == y.bin) = false := by simp [hbn2]
                      have HOW : Hid (∀ m, (wr.drewN m).ownsRow w7.heap.size 37 3 (.slice Ar (rst (ps.take j) y.bin).length cr) (rst (ps.take j) y.bin).length (cellsP (rst (ps.take j) y.bin))) := fun m => hown
                      clear hp hown
                      go_wp2
                      go_quiet (fail)
                      go_wp2_with (at_builtin; refine wpList_append_any _ rfl _ _ 31 rfl w7.heap.size 37 p0 _ 3 40 Try.underlying31 hpi hpz0 hpz1 hpz2 rfl (by decide) _ _ _ rfl ((HOW.out _).alloc _) (wr.heap.size + 1) (some ⟨wr.heap.size, 0, none⟩) 1 1 [.string p.key, .string p.item, .int .i64 p.bin] rfl (reads_row _ 37 [.string p.key, .string p.item, .int .i64 p.bin] rfl) (cellsP_one [p]) (by unfold maxLen; omega) (by omega) (by simp; omega) ?_; intro v' w8 hown' hgrow hat; have HE := Lib.hid (HN.out _ w8 v' hown' hgrow); clear hown' hgrow hat)
                      go_roundw
                      case rel => exact HE.out
                      case measure => simp [intOf]; omega
                  · have hjt : ps.take j = ps := List.take_of_length_le (by omega)
                    rw [hjt] at hown sl rl ⊢
                    have hsl : ((sel ps y.bin).length : Int) = (ls.length : Int) := by
                      have := congrArg List.length HTK.out.fit
                      simp at this
                      omega
                    have HLN : Hid (tot bs1 = (rst ps y.bin).length) := HTK.out.inv.len.symm
                    have HOW := Lib.hid hown
                    clear hjt hown
                    go_wp2_with fail
                    refine ((H7.out.same hs).len_to HLN.out).mono ?_
                    rintro e9 w8 ⟨rfl, h8, s8⟩
                    have HE := Lib.hid (HEND.out w8 _ (Fr.trans hs s8) (own_fr HOW.out s8 (fun _ _ x => x)))
                    clear h8
                    go_wp2
                    go_roundw
                    case rel => exact HE.out
                    case measure => simp [intOf]; omega
            · have hz0 : tot bs = 0 := tot_zero (fun b hb => by
                obtain ⟨j, hjb⟩ := List.getElem?_of_mem hb
                have hjl := (List.getElem?_eq_some_iff.1 hjb).1
                rw [HBN.out] at hjl
                rw [HZ.out j b (by omega) hjb]; rfl)
              have hpz : ps.length = 0 := by rw [HPT.out]; exact hz0
              obtain ⟨Ain, cin, hvin, _, _⟩ := row_formN hin
              have HZ0 := Lib.hid hz0
              rw [hpz] at hvin
              subst hvin
              clear hin hpz hz0 ho
              go_wp2_with fail
              refine (h5.len_to HZ0.out).mono ?_
              rintro e9 w8 ⟨rfl, h8, s8⟩
              clear h5
              go_wp2_with fail
              refine (awake_any _).mono ?_
              rintro e w9 ⟨rfl, hb9⟩
              go_wp2
              go_ret
              exact ⟨rfl, h8.sb.bel.trans (hb9.mono h8.sb.bel.size)⟩

theorem own : ownKnob Try.prog.godebug = none := by kernel_rfl
theorem laidOut : laidOutB Try.prog = true := by kernel_rfl

set_option maxRecDepth 100000 in
theorem lifted (os : Os) (started : os.Started) (H : Type) (enc : TypeId × Value → H) :
    ReturnsInHanded {} Try.checked os 3 .any (Rows.sorterKeepsSpec.pre6 enc Try.prog Try.f3 Rows.sorterKeepsRow.domain false) (Rows.sorterKeepsSpec.post enc Try.prog Try.f3 false true false false) := by
  refine returnsInHanded_of_change (C := Try.checked) own started (by kernel_rfl) Try.func3
    (ChangeSpec.witness6 (enc := enc) (C := Try.checked) false ⟨#[], #[.agg #[.int .i64 0, .int .i64 0, .slice none 0 0]], []⟩ 8 (by kernel_rfl) (by kernel_rfl) (by kernel_rfl) (by kernel_rfl)) ?_
  intro W base args ds gs before hval0 hW hcnd _
  have hval : ∀ (j : Nat) t v, Try.f3.params[j]? = some t → args[j]? = some v → Value.okWide Try.prog W .any base t v := hval0
  have hW' := hW
  obtain ⟨p, q, hA0, hV, rfl, hfz, hnd⟩ := hW
  have hA : DataW.TrodAll enc Try.prog W 0 (fun _ => true) true Try.f3.params.toList args.toList ds p := hA0
  rw [Try.params3] at hA hval
  obtain ⟨v0, vs0, d0, ds0, p0, q0, hargs, rfl, rfl, h0, r0⟩ := trodAll_cons hA
  obtain ⟨rfl, rfl, rfl⟩ := trodAll_nil r0
  obtain rfl : args = #[v0] := by cases args; simp_all
  obtain ⟨rfl, rfl⟩ := trodVars_none hV
  have k0 := h0
  have lt0 : ∀ x ∈ p0, x.block < W.heap.size := by obtain ⟨m, hm⟩ := k0; exact DataW.trod_lt m _ _ _ hm
  have ok0 := hval 0 24 v0 rfl rfl
  obtain ⟨x0, rfl, hx0⟩ := open_script ok0 h0
  clear hA0 hval0
  refine (walk x0 W hx0).mono fun e W' ⟨he, bel⟩ => ?_
  subst he
  exact ⟨_, rfl, _, _, _, [], _, [], hW', trodAll_mk1 (shut_bool Try.underlying4 _), (trodAll_cons_mk (Below.trod laidOut (by kernel_rfl) (of_decide_eq_true (by kernel_rfl)) k0 bel lt0) trodAll_mk0), rfl, bel.frame _, fun h => by cases h⟩

theorem over : Rows.sorterKeepsRow.holds Try.pinned (OpenSpec.ofChange Rows.sorterKeepsSpec) :=
  OpenClaim.holds_of_wide 3 Try.f3 rfl rfl rfl rfl rfl rfl rfl ⟨rfl, rfl, rfl, rfl, rfl⟩ rfl rfl rfl rfl rfl (by kernel_rfl) Try.func3 (by kernel_rfl)
    (of_decide_eq_true (by kernel_rfl)) (by unfold Func.isWrapper; first | (rw [if_pos (by decide +kernel)]; kernel_rfl) | (rw [if_neg (by decide +kernel)]; exact ⟨rfl, rfl⟩))
    (fun os started H enc _ => lifted os started H enc)

theorem proved : Rows.SorterKeepsSaid := over
end Go.Proofs.Yteokognbnilkmaa.sorterKeeps
