/-
  The walks of package stock's functions, in the words of the plain model.
-/
import Derived.Test.YtholaaojcpifnaaRows
import Derived.Test.YtholaaojcpifnaaPlain
import Derived.Outline
import Derived.Maps.AppendAt
import Derived.Deep.LoopGhost
import Derived.Lib.SlicesS
namespace Go.Proofs.Ytholaaojcpifnaa
open Go.RowKit

/-- A list of strings as cells. -/
def cellsS (xs : List Bs) : List Value := xs.map Value.string

/-- Blocks g (the struct), r (the map) and the row of v are a stock. -/
structure IsS (w : World) (g r : Nat) (v : Value) (s : Stk) : Prop where
  blk : Blk w g 55 #[.map (some r), v]
  map : ∃ l, MG Value.string w r l ∧ ∀ x, getG l x = getG s x
  row : w.ownsRow 0 9 1 v s.length (cellsS (s.map (·.1)))
  ok : SOk s

/-- The blocks of a stock. -/
def Own (g r : Nat) (v : Value) (i : Nat) : Prop := i = g ∨ i = r ∨ v.ownBlock = some i

theorem Fr.grown {S : Nat → Prop} {w w' : World} (h : Fr S w w') (hs : ∀ i, S i → ¬ True) : w.grownBy w' none := ⟨h.os, h.tape, h.output, h.size, fun i hi _ => h.block i hi (fun x => hs i x trivial)⟩
theorem own_fr {S : Nat → Prop} {w w' : World} {base : Nat} {e : TypeId} {size n : Nat} {v : Value} {xs : List Value} (h : w.ownsRow base e size v n xs) (hf : Fr S w w') (hn : ∀ i, v.ownBlock = some i → ¬ S i) : w'.ownsRow base e size v n xs := by
  obtain ⟨hl, h | ⟨g, cap, cur, rfl, hb, hh, hr⟩⟩ := h
  · exact ⟨hl, .inl h⟩
  · have hlt : g < w.heap.size := by
      rcases Nat.lt_or_ge g w.heap.size with hlt | hge
      · exact hlt
      · rw [Array.getElem?_eq_none hge] at hh; cases hh
    exact ⟨hl, .inr ⟨g, cap, cur, rfl, hb, (hf.block g hlt (hn g rfl)).trans hh, hr⟩⟩
theorem own_lt {w : World} {base : Nat} {e : TypeId} {size n : Nat} {v : Value} {xs : List Value} (h : w.ownsRow base e size v n xs) {i : Nat} (hi : v.ownBlock = some i) : base ≤ i ∧ i < w.heap.size := h.lt i hi
theorem own_ne {w : World} {base g : Nat} {e t : TypeId} {size n : Nat} {v : Value} {xs : List Value} {cs : Array Value} (h : w.ownsRow base e size v n xs) (hg : Blk w g t cs) (hne : e ≠ t) : v.ownBlock ≠ some g := by
  rcases h.2 with ⟨rfl, _⟩ | ⟨g', cap, cur, rfl, _, hh, _⟩
  · simp [Value.ownBlock]
  · intro he
    have : g' = g := by simpa [Value.ownBlock] using he
    subst this
    exact Blk.ne_ (t := e) hh hg hne rfl
theorem own_ne_map {w : World} {base r c : Nat} {e : TypeId} {size n : Nat} {v : Value} {xs : List Value} {es : Array MapEntry} (h : w.ownsRow base e size v n xs) (hm : Mp w r es c) : v.ownBlock ≠ some r := by
  rcases h.2 with ⟨rfl, _⟩ | ⟨g', cap, cur, rfl, _, hh, _⟩
  · simp [Value.ownBlock]
  · intro he
    have : g' = r := by simpa [Value.ownBlock] using he
    subst this
    unfold Mp at hm
    rw [hh] at hm
    cases hm

section
variable {w w' : World} {g r : Nat} {v : Value} {s : Stk} {S : Nat → Prop}
theorem IsS.fr (h : IsS w g r v s) (hf : Fr S w w') (hn : ∀ i, Own g r v i → ¬ S i) : IsS w' g r v s := by
  obtain ⟨l, hm, hg⟩ := h.map
  exact ⟨h.blk.fr hf (hn g (.inl rfl)), ⟨l, hm.fr hf (hn r (.inr (.inl rfl))), hg⟩, own_fr h.row hf (fun i hi => hn i (.inr (.inr hi))), h.ok⟩
theorem IsS.lt (h : IsS w g r v s) (i : Nat) (hi : Own g r v i) : i < w.heap.size := by
  rcases hi with rfl | rfl | hi
  · exact h.blk.lt
  · obtain ⟨l, hm, _⟩ := h.map; exact hm.lt
  · exact (own_lt h.row hi).2
theorem IsS.gr (h : IsS w g r v s) : g ≠ r := by
  rintro rfl
  obtain ⟨l, ⟨es, c, hm, _⟩, _⟩ := h.map
  have hb := h.blk
  unfold Blk at hb
  unfold Mp at hm
  rw [hb] at hm
  cases hm
theorem IsS.vg (h : IsS w g r v s) : v.ownBlock ≠ some g := own_ne h.row h.blk (by decide)
theorem IsS.vr (h : IsS w g r v s) : v.ownBlock ≠ some r := by obtain ⟨l, ⟨es, c, hm, _⟩, _⟩ := h.map; exact own_ne_map h.row hm
theorem zero9 (w : World) : (zeroValue 9).run Try.prog w = .ok (.string nul) w := by kernel_rfl
theorem IsS.look2 (h : IsS w g r v s) (x : Bs) : (Instr.lookup 53 (.map (some r)) (.string x) true).run Try.prog w = .ok (.tuple #[.string ((getG s x).getD nul), .bool (getG s x).isSome]) w := by
  obtain ⟨l, hm, hg⟩ := h.map
  have := hm.look2 (P := Try.prog) (t := 53) Try.underlying53 Try.underlying9 zero9 x
  rw [hg x] at this
  rw [this]
  cases getG s x <;> rfl
theorem IsS.look (h : IsS w g r v s) (x : Bs) : (Instr.lookup 53 (.map (some r)) (.string x) false).run Try.prog w = .ok (.string ((getG s x).getD nul)) w := by
  obtain ⟨l, hm, hg⟩ := h.map
  have := hm.look (P := Try.prog) (t := 53) Try.underlying53 Try.underlying9 zero9 x
  rw [hg x] at this
  rw [this]
  cases getG s x <;> rfl
end

/-- Nothing that was there has turned. -/
def Same (w w' : World) : Prop := Fr (fun _ => False) w w'
theorem Same.to {w w' : World} (h : Same w w') (S : Nat → Prop) : Fr S w w' := h.mono fun _ _ x => x.elim
theorem Same.below {w w' : World} (h : Same w w') : Below w.heap.size w w' := Fr.below h (Nat.le_refl _) (fun _ _ x => x.elim)
theorem Same.refl (w : World) : Same w w := Fr.refl _ _
theorem Same.of {w w' : World} (h : Below w.heap.size w w') : Same w w' := Fr.of_new h _
theorem IsS.same {w w' : World} {g r : Nat} {v : Value} {s : Stk} (h : IsS w g r v s) (hs : Same w w') : IsS w' g r v s := h.fr hs (fun _ _ x => x)

set_option maxHeartbeats 400000 in
theorem new_any (w : World) : Calls Try.prog 11 #[] w fun e w' => e = .returned (.pointer (some ⟨w.heap.size + 1, 0, none⟩)) ∧ IsS w' (w.heap.size + 1) w.heap.size (.slice none 0 0) [] ∧ Below w.heap.size w w' := by
  have hmm := @run_makeMap Try.prog
  go_enter Try.func11, Try.ntmps11
  go_wp2
  go_ret
  refine ⟨rfl, ⟨?_, ⟨[], ⟨#[], 0, (Below.heap_alloc _ _ _ (by simp)).trans (Mp.new w #[] 0), rfl, by simp⟩, fun _ => rfl⟩, ⟨by simp [cellsS], .inl ⟨rfl, rfl⟩⟩, ⟨by simp, by simp, by simp⟩⟩, ((Below.refl _ _).alloc (Nat.le_refl _) _).alloc (by simp) _⟩
  have := Blk.new (w.alloc (.map #[] 0)) 55 #[.map (some w.heap.size), .slice none 0 0]
  simpa using this

set_option maxHeartbeats 400000 in
theorem of_any (g r : Nat) (v : Value) (s : Stk) (x : Bs) (w : World) (h : IsS w g r v s) : Calls Try.prog 14 #[.pointer (some ⟨g, 0, none⟩), .string x] w fun e w' => e = .returned (.tuple #[.string ((getG s x).getD nul), .bool (getG s x).isSome]) ∧ w = w' := by
  have c0 := h.blk.cell 0
  have hl := h.look2 x
  clear h
  simp at c0
  go_enter Try.func14, Try.ntmps14
  go_wp2
  go_ret2
  exact ⟨rfl, rfl⟩

theorem info9 : (Try.prog.info? 9).map (fun i => (i.zero, i.size, i.bytes)) = some (some (.string nul), 1, 16) := by kernel_rfl

/-- What holds at the head of each round of 'with'. -/
def WRel (w : World) (s : Stk) (o : Bs) (l i : Value) (wr : World) : Prop :=
  ∃ k : Nat, k ≤ s.length ∧ i = .int .i64 k ∧ wr.ownsRow w.heap.size 9 1 l (withs (s.take k) o).length (cellsS (withs (s.take k) o)) ∧ Below w.heap.size w wr

/-- What a row of one-cell elements gives. -/
theorem row_form {w : World} {base n : Nat} {e : TypeId} {v : Value} {xs : List Value} (h : w.ownsRow base e 1 v n xs) :
    ∃ A cap, v = .slice A n cap ∧ n ≤ 9223372036854775807 ∧ ∀ k u, xs[k]? = some u → ∃ gi, A = some ⟨gi, 0, none⟩ ∧ w.cell? ⟨gi, k, none⟩ = some u ∧ base ≤ gi ∧ gi < w.heap.size := by
  obtain ⟨hl, ⟨rfl, rfl⟩ | ⟨g, cap, cur, rfl, hb, hh, h1, h2, h3, h4⟩⟩ := h
  · exact ⟨none, 0, rfl, by omega, fun k u hu => by
      have : xs = [] := List.eq_nil_of_length_eq_zero (by omega)
      subst this
      simp at hu⟩
  · unfold maxLen at h2
    refine ⟨_, cap, rfl, by omega, fun k u hu => ⟨g, rfl, ?_, hb, ?_⟩⟩
    · rw [cell_of_row w g k cur e (0, 0) hh, ← Array.getElem?_toList]
      rw [← h4, Nat.mul_one] at hu
      rw [List.getElem?_take] at hu
      split at hu
      · exact hu
      · cases hu
    · rcases Nat.lt_or_ge g w.heap.size with hlt | hge
      · exact hlt
      · rw [Array.getElem?_eq_none hge] at hh; cases hh
theorem cellsS_get {xs : List Bs} {k : Nat} {x : Bs} (h : xs[k]? = some x) : (cellsS xs)[k]? = some (.string x) := by simp [cellsS, h]
theorem withs_le (s : Stk) (o : Bs) : (withs s o).length ≤ s.length := by unfold withs; rw [List.length_map]; exact List.length_filter_le _ _

/-- How a call ends that returns a new slice of strings. -/
def RetS (w : World) (xs : List Bs) (e : Ending) (w' : World) : Prop := ∃ l, e = .returned l ∧ w'.ownsRow w.heap.size 9 1 l xs.length (cellsS xs) ∧ Below w.heap.size w w'

theorem wrel_next {w wr w1 : World} {s : Stk} {o x ord : Bs} {k : Nat} {l l' : Value} (he : s[k]? = some (x, ord)) (ho : ord = o) (hlt : k < s.length) (hb : Below w.heap.size w wr) (hown : wr.ownsRow w.heap.size 9 1 l (withs (s.take k) o).length (cellsS (withs (s.take k) o)))
    (h1 : w1.ownsRow w.heap.size 9 1 l' ((withs (s.take k) o).length + 1) (cellsS (withs (s.take k) o) ++ [.string x])) (hg : (wr.alloc (.cells #[.string x] 9)).grownBy w1 l.ownBlock) : WRel w s o l' (.int .i64 ((k : Int) + 1)) w1 := by
  have e1 : withs (s.take (k + 1)) o = withs (s.take k) o ++ [x] := by rw [withs_take he, if_pos ho]
  refine ⟨k + 1, by omega, by simp, ?_, ?_⟩
  · rw [e1]
    simpa [cellsS] using h1
  · refine (hb.alloc hb.size _).grown hg (by have := hb.size; simp; omega) (fun j hj => ?_)
    exact (hown.lt j hj).1
theorem wrel_skip {w wr : World} {s : Stk} {o x ord : Bs} {k : Nat} {l : Value} (he : s[k]? = some (x, ord)) (ho : ord ≠ o) (hlt : k < s.length) (hb : Below w.heap.size w wr) (hown : wr.ownsRow w.heap.size 9 1 l (withs (s.take k) o).length (cellsS (withs (s.take k) o))) :
    WRel w s o l (.int .i64 ((k : Int) + 1)) wr := by
  have e1 : withs (s.take (k + 1)) o = withs (s.take k) o := by rw [withs_take he, if_neg ho]
  exact ⟨k + 1, by omega, by simp, by rw [e1]; exact hown, hb⟩

set_option maxHeartbeats 1000000 in
theorem with_any (g r : Nat) (v : Value) (s : Stk) (o : Bs) (w : World) (h : IsS w g r v s) : Calls Try.prog 31 #[.pointer (some ⟨g, 0, none⟩), .string o] w (RetS w (withs s o)) := by
  obtain ⟨i0, hi0, hz0, hz1, hz2⟩ := info_parts info9
  have c0 := h.blk.cell 0
  have c1 := h.blk.cell 1
  have gl := h.blk.lt
  have hle := h.ok.le
  simp at c0 c1
  obtain ⟨A, cap, hv, hn, hcells⟩ := row_form h.row
  subst hv
  have H := Lib.hid h
  have HC := Lib.hid hcells
  clear h hcells
  have hR : WRel w s o (.slice none 0 0) (.int .i64 0) w := ⟨0, by omega, rfl, ⟨by simp [cellsS, withs], .inl ⟨rfl, by simp [withs]⟩⟩, Below.refl _ _⟩
  have hlen : (s.length : Int) ≤ 512 := by omega
  go_enter Try.func31, Try.ntmps31
  go_wp2
  go_loopw [5, 15] (fun l i wr => WRel w s o l i wr) (fun _ i _ => s.length - (intOf i).toNat)
  case atStart => exact hR
  case round =>
    obtain ⟨k, hk, rfl, hown, hb⟩ := hrel
    clear hR
    have hS := H.out.same (Same.of hb)
    have d0 := hS.blk.cell 0
    simp at d0
    have hwl := withs_le (s.take k) o
    rw [List.length_take] at hwl
    by_cases hlt : k < s.length
    · obtain ⟨e, he⟩ : ∃ e, s[k]? = some e := ⟨s[k], List.getElem?_eq_getElem hlt⟩
      obtain ⟨x, ord⟩ := e
      obtain ⟨gi, rfl, hcell0, _, hgl⟩ := HC.out k _ (cellsS_get (x := x) (by simp [he]))
      have hcell : wr.cell? ⟨gi, k, none⟩ = some (.string x) := (hb.cell (p := ⟨gi, k, none⟩) hgl).trans hcell0
      have hg : getG s x = some ord := getG_mem s x ord H.out.ok.nd (List.mem_of_getElem? he)
      have hl := hS.look x
      rw [hg] at hl
      simp only [Option.getD_some] at hl
      have hbs := hb.size
      have HE := Lib.hid he
      clear hcell0 hg he hS
      by_cases ho : ord = o
      · have HN := Lib.hid (fun w1 l' h1 h2 => wrel_next (w1 := w1) (l' := l') HE.out ho hlt hb hown h1 h2)
        subst ho
        go_wp2_with (at_builtin; refine wpList_append_own_at _ rfl _ _ 31 rfl w.heap.size 9 i0 _ 1 16 Try.underlying31 hi0 hz0 hz1 hz2 rfl (by decide) _ _ _ rfl (hown.alloc _) ⟨wr.heap.size, 0, none⟩ 1 1 [.string x] rfl rfl (cell_one_new _ _ _) (by simp [Value.oneCell']) (by unfold maxLen; omega) (by omega) (by simp; omega) ?_; intro v' w1 hown' hgrow _ _; have HE2 := Lib.hid (HN.out w1 v' hown' hgrow); clear hown' hgrow hl)
        go_roundw
        case rel => exact HE2.out
        case measure => simp [intOf]; omega
      · have HN := Lib.hid (wrel_skip HE.out ho hlt hb hown)
        have ko : (ord.toList == o.toList) = false := (Lib.bytes_beq_false_iff ord o).2 ho
        clear ho
        go_wp2
        go_roundw
        case rel => exact HN.out
        case measure => simp [intOf]; omega
    · have hk2 : k = s.length := by omega
      subst hk2
      rw [List.take_length] at hown
      clear hwl
      go_wp2
      go_ret
      exact ⟨_, rfl, hown, hb⟩

end Go.Proofs.Ytholaaojcpifnaa
