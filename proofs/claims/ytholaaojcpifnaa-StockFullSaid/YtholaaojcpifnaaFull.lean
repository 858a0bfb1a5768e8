/-
  StockFull returns true for every name and number.
-/
import Derived.Test.YtholaaojcpifnaaSpread
import Derived.Laws.BytesString
namespace Go.Proofs.Ytholaaojcpifnaa.stockFull
open Go.ChangeShapes Go.WideShapes Go.ChangeAt Go.RowKit

theorem open_str {H : Type} {enc : TypeId × Value → H} {W : World} {b0 : Nat} {r : Reach} {base : Nat} {sp : Nat → Bool} {hd : Bool} {v : Value} {d : DataW H} {p : List MemPlace} (hv : Value.okWide Try.prog W r b0 9 v)
    (h : DataW.Trod enc Try.prog W base sp hd 9 v d p) : ∃ s : Bs, v = .string s ∧ s.size ≤ 9223372036854775807 := by
  obtain ⟨s, rfl⟩ := okWide_string Try.underlying9 hv
  obtain ⟨fuel, hf⟩ := h
  obtain ⟨s', hs, _, hw⟩ := DataW.trod_string Try.underlying9 hf
  simp [Value.cells] at hs
  subst hs
  unfold maxLen at hw
  exact ⟨s, rfl, by omega⟩


theorem wfu16 {n : Int} (h : (Lit.int .u16 n).wf = true) : 0 ≤ n ∧ n ≤ 65535 := by
  simp only [Lit.wf, Bool.and_eq_true, decide_eq_true_eq] at h
  exact h
theorem open_u16 {H : Type} {enc : TypeId × Value → H} {W : World} {b0 : Nat} {r : Reach} {base : Nat} {sp : Nat → Bool} {hd : Bool} {v : Value} {d : DataW H} {p : List MemPlace} (hv : Value.okWide Try.prog W r b0 44 v)
    (h : DataW.Trod enc Try.prog W base sp hd 44 v d p) : ∃ n : Int, v = .int .u16 n ∧ 0 ≤ n ∧ n ≤ 65535 := by
  obtain ⟨n, rfl⟩ := okWide_int Try.underlying44 hv
  obtain ⟨fuel, hf⟩ := h
  obtain ⟨n', hn, _, hw⟩ := DataW.trod_int Try.underlying44 hf
  simp [Value.cells] at hn
  subst hn
  exact ⟨n, rfl, wfu16 hw⟩

/-- After k items have been added, each longer than the ones before it. -/
structure FInv (name item : Bs) (k : Nat) (s : Stk) : Prop where
  len : s.length = k
  fr : ∀ e ∈ s, e.2 = nul ∧ e.1.size ≤ item.size
  sz : item.size = name.size + k
  mem : 0 < k → getG s item = some nul

theorem long_none {t : Stk} {m : Nat} {y : Bs} (h : ∀ x ∈ t.map (·.1), x.size ≤ m) (hy : m < y.size) : getG t y = none :=
  (getG_none_iff t y).2 fun hm => by have := h y hm; omega
theorem ne_nul {y : Bs} (h : 0 < y.size) : y ≠ nul := fun e => by rw [e] at h; exact absurd h (by decide)
theorem FInv.keys {name item : Bs} {k : Nat} {s : Stk} (h : FInv name item k s) : ∀ x ∈ s.map (·.1), x.size ≤ item.size := fun x hx => by
  obtain ⟨e, he, rfl⟩ := List.mem_map.1 hx
  exact (h.fr e he).2
theorem FInv.add {name item y : Bs} {k : Nat} {s : Stk} (h : FInv name item k s) (hk : k < 512) (hy : y.size = item.size + 1) : sAdd s y = (s ++ [(y, nul)], 0) :=
  add_new (ne_nul (by omega)) (long_none h.keys (by omega)) (by rw [h.len]; exact hk)
theorem FInv.next {name item y : Bs} {k : Nat} {s : Stk} (h : FInv name item k s) (hy : y.size = item.size + 1) : FInv name y (k + 1) (s ++ [(y, nul)]) := by
  have hg := (getG_none_iff s y).1 (long_none h.keys (by omega))
  refine ⟨by simp [h.len], fun e he => ?_, by have := h.sz; omega, fun _ => by rw [getG_append s y nul y hg, if_pos rfl]⟩
  rcases List.mem_append.1 he with he | he
  · have := h.fr e he
    exact ⟨this.1, by omega⟩
  · simp only [List.mem_singleton] at he
    subst he
    exact ⟨rfl, Nat.le_refl _⟩
theorem FInv.free {name item : Bs} {k : Nat} {s : Stk} (h : FInv name item k s) : (withs s nul).length = k := by
  unfold withs
  rw [List.length_map, List.filter_eq_self.2, h.len]
  intro e he
  simp [(h.fr e he).1]

/-- After i of the items have been reserved. -/
structure RInv (m : Nat) (o : Bs) (L : List Bs) (i : Nat) (t : Stk) : Prop where
  len : t.length = 512
  keys : ∀ x ∈ t.map (·.1), x.size ≤ m
  own : (withs t o).length = i
  fr : (withs t nul).length + i = 512
  later : ∀ (a : Nat) (x : Bs), i ≤ a → L[a]? = some x → getG t x = some nul

theorem RInv.start {name item o : Bs} {s : Stk} (h : FInv name item 512 s) (ok : SOk s) (ho : o ≠ nul) : RInv item.size o (withs s nul) 0 s := by
  refine ⟨h.len, h.keys, ?_, by rw [h.free], fun a x _ hx => withs_get ok (List.mem_of_getElem? hx)⟩
  unfold withs
  rw [List.length_map, List.length_eq_zero_iff, List.filter_eq_nil_iff]
  intro e he
  have := (h.fr e he).1
  simp [this, Ne.symm ho]
theorem RInv.next {m i : Nat} {o x : Bs} {L : List Bs} {t : Stk} (h : RInv m o L i t) (ok : SOk t) (ho : o ≠ nul) (hnd : L.Nodup) (hx : L[i]? = some x) :
    sReserve t x o = (setO t x o, 0) ∧ RInv m o L (i + 1) (setO t x o) := by
  have hgx := h.later i x (Nat.le_refl _) hx
  obtain ⟨c1, c2, _⟩ := setO_count ok.nd ho hgx
  have h1 := h.own
  have h2 := h.fr
  refine ⟨by unfold sReserve; rw [if_neg ho, hgx]; simp, by unfold setO; rw [List.length_map, h.len], by rw [setO_fst]; exact h.keys, by omega, by omega, fun a y ha hy => ?_⟩
  rw [setO_get, if_neg ?_]
  · exact h.later a y (by omega) hy
  · intro e
    subst e
    obtain ⟨l1, m1⟩ := List.getElem?_eq_some_iff.1 hx
    obtain ⟨l2, m2⟩ := List.getElem?_eq_some_iff.1 hy
    have := (List.getElem_inj hnd).1 (m1.trans m2.symm)
    omega
theorem full_add {t : Stk} {m : Nat} {y : Bs} (hk : ∀ x ∈ t.map (·.1), x.size ≤ m) (hl : t.length = 512) (hy : m < y.size) : sAdd t y = (t, 12) := by
  unfold sAdd
  rw [if_neg (ne_nul (by omega)), long_none hk hy]
  simp [hl]
theorem there_add {t : Stk} {y : Bs} (hy : 0 < y.size) (h : getG t y = some nul) : sAdd t y = (t, 7) := by
  unfold sAdd
  rw [if_neg (ne_nul hy), h]
  simp
theorem RInv.last {m i : Nat} {o : Bs} {L : List Bs} {t : Stk} (h : RInv m o L i t) (ho : o ≠ nul) (hi : 0 < i) :
    (held t o).length = i ∧ ∀ y : Bs, m < y.size → sAdd (sRemove t o) y = (sRemove t o ++ [(y, nul)], 0) ∧ (withs (sRemove t o ++ [(y, nul)]) nul).length + i = 513 := by
  have h1 := h.own
  have h2 := h.fr
  have h3 := remove_len t o
  have h4 := held_ne t ho
  have h5 := h.len
  refine ⟨by rw [h4, h1], fun y hy => ⟨add_new (ne_nul (by omega)) (long_none (m := m) (fun x hx => h.keys x ?_) hy) (by rw [h4] at h3; omega), ?_⟩⟩
  · obtain ⟨e, he, rfl⟩ := List.mem_map.1 hx
    exact List.mem_map.2 ⟨e, (List.mem_filter.1 he).1, rfl⟩
  · rw [withs_new, remove_free, List.length_append]
    simp
    omega

theorem conv1 (w : World) (n : Int) : ∃ c : Bs, c.size = 1 ∧ (convert 45 9 (.slice (some ⟨w.heap.size, 0, none⟩) 1 1)).run Try.prog (w.alloc (.cells #[.int .u8 n] 5)) = .ok (.string c) (w.alloc (.cells #[.int .u8 n] 5)) := by
  refine ⟨ByteArray.empty.push (UInt8.ofNat n.toNat), ?_, ?_⟩
  rotate_left
  · rw [run_convert_bytes_string _ 45 9 5 _ _ _ Try.underlying45 Try.underlying5 Try.underlying9]
    exact run_bytesToString _ _ 1 1 [n] (run_loadCells_list (P := Try.prog) _ _ [.int .u8 n] (fun j v hj => by
      have hj0 : j = 0 := by
        have := (List.getElem?_eq_some_iff.1 hj).1
        simp at this
        omega
      subst hj0
      simp at hj
      subst hj
      simp [Addr.add]))
  · rfl

/-- What holds at the head of each round of the first loop. -/
def Rel (w : World) (name : Bs) (it i : Value) (wr : World) : Prop :=
  ∃ (k : Nat) (item : Bs) (s : Stk), k ≤ 512 ∧ it = .string item ∧ i = .int .i64 k ∧ SB w (fun _ => False) wr (w.heap.size + 1) w.heap.size s ∧ FInv name item k s

/-- What holds at the head of each round of the second loop. -/
def Rel2 (w : World) (K : Nat → Prop) (g r m n : Nat) (A : Option Addr) (L : List Bs) (i : Value) (wr : World) : Prop :=
  ∃ (k : Nat) (t : Stk), i = .int .i64 k ∧ k ≤ n ∧ SB w K wr g r t ∧ RS wr A L.length L ∧ RInv m cO L k t

set_option maxRecDepth 100000 in
set_option maxHeartbeats 2000000 in
theorem walk (name : Bs) (more : Int) (w : World) (hs : name.size ≤ 9223372036854775807) (hm : 0 ≤ more ∧ more ≤ 65535) :
    Calls Try.prog 4 #[.string name, .int .u16 more] w fun e w' => e = .returned (.bool true) ∧ Below w.heap.size w w' := by
  go_enter Try.func4, Try.ntmps4
  by_cases o1 : (name.size : Int) > 20
  · go_wp2_with fail
    refine (awake_any _).mono ?_
    rintro e w2 ⟨rfl, hb2⟩
    go_wp2
    go_ret
    exact ⟨rfl, hb2⟩
  · go_wp2_with fail
    refine (new_sb w).mono ?_
    rintro e w1 ⟨rfl, h1⟩
    have hR : Rel w name (.string name) (.int .i64 0) w1 := ⟨0, name, [], by omega, rfl, rfl, h1, ⟨rfl, (fun e he => by cases he), rfl, (fun h => absurd h (by omega))⟩⟩
    clear h1
    go_wp2
    go_loopw [6, 7] (fun it i wr => Rel w name it i wr) (fun _ i _ => 512 - (intOf i).toNat)
    case atStart => exact hR
    case round =>
      obtain ⟨k, item, s, hk, rfl, rfl, h1, hi⟩ := hrel
      clear hR
      have hsz := hi.sz
      by_cases hlt : k < 512
      · have HI := Lib.hid hi
        clear hi
        have i1 : (k : Int) < 512 := by omega
        have i2 : 0 ≤ (k : Int) % 26 ∧ (k : Int) % 26 < 26 := ⟨Int.emod_nonneg _ (by omega), Int.emod_lt_of_pos _ (by omega)⟩
        obtain ⟨c, hc1, hcv⟩ := conv1 wr (97 + (k : Int) % 26)
        have hcs : (item ++ c).size = item.size + 1 := by rw [ByteArray.size_append, hc1]
        have h2 := h1.same ((Same.refl wr).alloc (.cells #[.int .u8 (97 + (k : Int) % 26)] 5))
        clear h1
        go_wp2_with fail
        refine (add_to h2 (HI.out.add hlt hcs)).mono ?_
        rintro e w3 ⟨rfl, h3, _⟩
        have HR : Hid (Rel w name (.string (item ++ c)) (.int .i64 ((k : Int) + 1)) w3) := ⟨k + 1, item ++ c, _, by omega, rfl, by simp, h3, HI.out.next hcs⟩
        clear h2 h3
        go_wp2
        go_roundw
        case rel => exact HR.out
        case measure => simp [intOf]; omega
      · have hk2 : k = 512 := by omega
        subst hk2
        have ok1 := h1.ok
        have hip : 0 < item.size := by omega
        have HA := Lib.hid (there_add hip (hi.mem (by omega)))
        have HF := Lib.hid (fun (y : Bs) (hy : y.size = item.size + 1) => full_add hi.keys hi.len (show item.size < y.size by omega))
        have hfl : ((withs s nul).length : Int) = 512 := by rw [hi.free]; rfl
        have hfn : (withs s nul).length = 512 := hi.free
        have HS := Lib.hid (RInv.start hi ok1 (o := cO) (by decide +kernel))
        have HND := Lib.hid (withs_nodup ok1 nul)
        clear hi ok1
        go_wp2_with fail
        refine (add_to h1 HA.out).mono ?_
        rintro e w2 ⟨rfl, h2, _⟩
        clear h1
        go_wp2_with fail
        refine (add_to h2 (HF.out _ ?_)).mono ?_
        · rw [ByteArray.size_append]
          rfl
        rintro e w3 ⟨rfl, h3, _⟩
        clear h2
        go_wp2_with fail
        refine (free_sb h3).mono ?_
        rintro e w4 ⟨A4, c4, rfl, _, _, h4⟩
        clear h3
        go_wp2_with fail
        refine (free_sb h4).mono ?_
        rintro e w5 ⟨A5, c5, rfl, r5, _, h5⟩
        clear h4
        obtain ⟨n, hn0, hn⟩ : ∃ n : Nat, (n : Int) = more % 512 ∧ n < 512 := ⟨(more % 512).toNat, by omega, by omega⟩
        have hwr : more % ((withs s nul).length : Int) = (n : Int) := by rw [hfl, hn0]
        have hR2 : Rel2 w _ (w.heap.size + 1) w.heap.size item.size (n + 1) A5 (withs s nul) (.int .i64 0) w5 := ⟨0, s, rfl, by omega, h5, r5, HS.out⟩
        generalize withs s nul = L at *
        clear h5 r5 HS
        obtain ⟨hm1, hm2⟩ := hm
        have ht : Int.tmod more 512 = (n : Int) := by rw [Int.tmod_eq_emod_of_nonneg hm1]; exact hn0.symm
        clear HA hn0 hwr
        go_wp2
        go_loopw [10] (fun i wr => Rel2 w (fun i => (False ∨ InA A4 i) ∨ InA A5 i) (w.heap.size + 1) w.heap.size item.size (n + 1) A5 L i wr) (fun i _ => n + 1 - (intOf i).toNat)
        case atStart => exact hR2
        case round =>
          obtain ⟨k, t, rfl, hk2, h1, r1, ri⟩ := hrel
          clear hR2
          by_cases hlt2 : k < n + 1
          · obtain ⟨x, hx⟩ : ∃ x, L[k]? = some x := ⟨L[k]'(by omega), List.getElem?_eq_getElem _⟩
            obtain ⟨gf, of, hAf, hcf, _⟩ := r1.2.2 k x hx
            subst hAf
            have HN := Lib.hid (ri.next h1.ok (by decide +kernel) HND.out hx)
            clear ri hx
            go_wp2_with fail
            refine (reserve_to (x := x) (o := cO) h1 HN.out.1).mono ?_
            rintro e w8 ⟨rfl, h8, f8⟩
            have HR : Hid (Rel2 w (fun i => (False ∨ InA A4 i) ∨ InA (some ⟨gf, of, none⟩) i) (w.heap.size + 1) w.heap.size item.size (n + 1) (some ⟨gf, of, none⟩) L (.int .i64 ((k : Int) + 1)) w8) :=
              ⟨k + 1, _, by simp, by omega, h8, r1.keep f8 (fun i hi => .inr hi), HN.out.2⟩
            clear h1 h8 f8 r1 hcf
            go_wp2
            go_roundw
            case rel => exact HR.out
            case measure => simp [intOf]; omega
          · have ek : k = n + 1 := by omega
            subst ek
            obtain ⟨hl1, hl2⟩ := ri.last (by decide +kernel) (by omega)
            have HF2 := Lib.hid (fun (y : Bs) (hy : y.size = item.size + 1) => full_add ri.keys ri.len (show item.size < y.size by omega))
            have HL2 := Lib.hid (fun (y : Bs) (hy : y.size = item.size + 1) => hl2 y (by omega))
            have hl3 : ((held t cO).length : Int) = (n : Int) + 1 := by omega
            clear hl2 ri r1
            go_wp2_with fail
            refine (add_to h1 (HF2.out _ ?_)).mono ?_
            · rw [ByteArray.size_append]
              rfl
            rintro e w2 ⟨rfl, h2, _⟩
            clear h1
            go_wp2_with fail
            refine (remove_sb (o := cO) h2).mono ?_
            rintro e w3 ⟨A3, c3, rfl, _, _, h3⟩
            clear h2
            go_wp2_with fail
            refine (add_to h3 (HL2.out _ ?_).1).mono ?_
            · rw [ByteArray.size_append]
              rfl
            rintro e w6 ⟨rfl, h6, _⟩
            clear h3
            have hl5 := (HL2.out (item ++ ⟨#[120]⟩) (by rw [ByteArray.size_append]; rfl)).2
            go_wp2_with fail
            refine (free_sb h6).mono ?_
            rintro e w7 ⟨A7, c7, rfl, _, _, h7⟩
            clear h6
            generalize (withs (sRemove t cO ++ [(item ++ ⟨#[120]⟩, nul)]) nul).length = q at *
            have hl6 : (q : Int) = 512 - ((n : Int) + 1) + 1 := by omega
            go_wp2_with fail
            refine (awake_any _).mono ?_
            rintro e wh ⟨rfl, hb6⟩
            go_wp2
            go_ret
            exact ⟨rfl, h7.bel.trans (hb6.mono h7.bel.size)⟩

theorem own : ownKnob Try.prog.godebug = none := by kernel_rfl
theorem laidOut : laidOutB Try.prog = true := by kernel_rfl

set_option maxRecDepth 100000 in
theorem lifted (os : Os) (started : os.Started) (H : Type) (enc : TypeId × Value → H) :
    ReturnsInHanded {} Try.checked os 4 .any (Rows.stockFullSpec.pre6 enc Try.prog Try.f4 Rows.stockFullRow.domain false) (Rows.stockFullSpec.post enc Try.prog Try.f4 false true false false) := by
  refine returnsInHanded_of_change (C := Try.checked) own started (by kernel_rfl) Try.func4
    (ChangeSpec.witness6 (enc := enc) (C := Try.checked) false ⟨#[], #[.string ⟨#[]⟩, .int .u16 0], []⟩ 8 (by kernel_rfl) (by kernel_rfl) (by kernel_rfl) (by kernel_rfl)) ?_
  intro W base args ds gs before hval0 hW hcnd _
  have hval : ∀ (j : Nat) t v, Try.f4.params[j]? = some t → args[j]? = some v → Value.okWide Try.prog W .any base t v := hval0
  have hW' := hW
  obtain ⟨p, q, hA0, hV, rfl, hfz, hnd⟩ := hW
  have hA : DataW.TrodAll enc Try.prog W 0 (fun _ => true) true Try.f4.params.toList args.toList ds p := hA0
  rw [Try.params4] at hA hval
  obtain ⟨v0, vs0, d0, ds0, p0, q0, hargs, rfl, rfl, h0, r0⟩ := trodAll_cons hA
  obtain ⟨v1, vs1, d1, ds1, p1, q1, rfl, rfl, rfl, h1, r1⟩ := trodAll_cons r0
  obtain ⟨rfl, rfl, rfl⟩ := trodAll_nil r1
  obtain rfl : args = #[v0, v1] := by cases args; simp_all
  obtain ⟨rfl, rfl⟩ := trodVars_none hV
  have k0 := h0
  have lt0 : ∀ x ∈ p0, x.block < W.heap.size := by obtain ⟨m, hm⟩ := k0; exact DataW.trod_lt m _ _ _ hm
  have ok0 := hval 0 9 v0 rfl rfl
  obtain ⟨s0, rfl, hs0⟩ := open_str ok0 h0
  have k1 := h1
  have lt1 : ∀ x ∈ p1, x.block < W.heap.size := by obtain ⟨m, hm⟩ := k1; exact DataW.trod_lt m _ _ _ hm
  have ok1 := hval 1 44 v1 rfl rfl
  obtain ⟨n1, rfl, hn1⟩ := open_u16 ok1 h1
  clear hA0 hval0
  refine (walk s0 n1 W hs0 hn1).mono fun e W' ⟨he, bel⟩ => ?_
  subst he
  exact ⟨_, rfl, _, _, _, [], _, [], hW', trodAll_mk1 (shut_bool Try.underlying4 _), (trodAll_cons_mk (Below.trod laidOut (by kernel_rfl) (of_decide_eq_true (by kernel_rfl)) k0 bel lt0) (trodAll_cons_mk (Below.trod laidOut (by kernel_rfl) (of_decide_eq_true (by kernel_rfl)) k1 bel lt1) trodAll_mk0)), rfl, bel.frame _, fun h => by cases h⟩

theorem over : Rows.stockFullRow.holds Try.pinned (OpenSpec.ofChange Rows.stockFullSpec) :=
  OpenClaim.holds_of_wide 4 Try.f4 rfl rfl rfl rfl rfl rfl rfl ⟨rfl, rfl, rfl, rfl, rfl⟩ rfl rfl rfl rfl rfl (by kernel_rfl) Try.func4 (by kernel_rfl)
    (of_decide_eq_true (by kernel_rfl)) (by unfold Func.isWrapper; first | (rw [if_pos (by decide +kernel)]; kernel_rfl) | (rw [if_neg (by decide +kernel)]; exact ⟨rfl, rfl⟩))
    (fun os started H enc _ => lifted os started H enc)

theorem proved : Rows.StockFullSaid := over
end Go.Proofs.Ytholaaojcpifnaa.stockFull
