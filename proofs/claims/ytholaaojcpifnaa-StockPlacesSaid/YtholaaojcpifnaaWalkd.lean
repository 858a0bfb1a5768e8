/-
  The walks of Release and Remove.
-/
import Derived.Test.YtholaaojcpifnaaWalkc
namespace Go.Proofs.Ytholaaojcpifnaa
open Go.RowKit

instance lawfulBytes : LawfulBEq ByteArray where
  eq_of_beq := fun {a b} h => (Go.MapKept.bytes_beq a b).1 h
  rfl := fun {a} => beqs a

theorem mem_held {s : Stk} (h : SOk s) (o q : Bs) : q ∈ held s o ↔ o ≠ nul ∧ getG s q = some o := by
  unfold held
  by_cases ho : o = nul
  · simp [ho]
  · rw [if_neg ho]
    unfold withs
    constructor
    · intro hq
      obtain ⟨e, he, rfl⟩ := List.mem_map.1 hq
      obtain ⟨h1, h2⟩ := List.mem_filter.1 he
      have h3 : e.2 = o := by simpa using h2
      exact ⟨ho, getG_mem s e.1 o h.nd (by rw [← h3]; exact h1)⟩
    · rintro ⟨_, hq⟩
      exact List.mem_map.2 ⟨(q, o), List.mem_filter.2 ⟨mem_of_getG s q o hq, by simp⟩, rfl⟩
theorem release_get {s : Stk} (h : SOk s) (o q : Bs) : getG (sRelease s o) q = if q ∈ held s o then some nul else getG s q := by
  rw [sRelease_get]
  by_cases hq : q ∈ held s o
  · obtain ⟨h1, h2⟩ := (mem_held h o q).1 hq
    rw [if_pos hq, h2]
    simp [h1]
  · rw [if_neg hq]
    have hn := fun x => hq ((mem_held h o q).2 x)
    cases hg : getG s q with
    | none => rfl
    | some a =>
      simp only [Option.map_some, Option.some.injEq]
      split
      · rename_i hh
        exact absurd ⟨hh.1, by rw [hg, hh.2]⟩ hn
      · rfl
theorem remove_get {s : Stk} (h : SOk s) (o q : Bs) : getG (sRemove s o) q = if q ∈ held s o then none else getG s q := by
  unfold sRemove
  rw [getG_filter _ s q h.nd]
  by_cases hq : q ∈ held s o
  · obtain ⟨h1, h2⟩ := (mem_held h o q).1 hq
    rw [if_pos hq, h2]
    simp [h1]
  · rw [if_neg hq]
    have hn := fun x => hq ((mem_held h o q).2 x)
    cases hg : getG s q with
    | none => rfl
    | some a =>
      have : o = nul ∨ a ≠ o := by
        by_cases ho : o = nul
        · exact .inl ho
        · exact .inr (fun e => hn ⟨ho, by rw [hg, e]⟩)
      simp [this]
theorem remove_eq {s : Stk} (h : SOk s) (o : Bs) : sRemove s o = s.filter fun e => decide (e.1 ∉ held s o) := by
  unfold sRemove
  apply List.filter_congr
  intro e he
  have hg := getG_mem s e.1 e.2 h.nd he
  have := mem_held h o e.1
  rw [hg] at this
  by_cases hq : e.1 ∈ held s o
  · obtain ⟨h1, h2⟩ := this.1 hq
    simp only [Option.some.injEq] at h2
    simp [hq, h1, h2]
  · have hn := fun x => hq (this.2 x)
    have : o = nul ∨ e.2 ≠ o := by
      by_cases ho : o = nul
      · exact .inl ho
      · exact .inr (fun e' => hn ⟨ho, by rw [e']⟩)
    simp [hq, this]
theorem remove_nil {s : Stk} (h : SOk s) (o : Bs) (hn : held s o = []) : sRemove s o = s := by
  rw [remove_eq h, hn]
  simp
theorem held_le (s : Stk) (o : Bs) : (held s o).length ≤ s.length := by
  unfold held
  split
  · simp
  · exact withs_le s o
theorem take_mem {xs : List Bs} {k : Nat} {x : Bs} (h : xs[k]? = some x) (q : Bs) : q ∈ xs.take (k + 1) ↔ q = x ∨ q ∈ xs.take k := by
  obtain ⟨hk, he⟩ := List.getElem?_eq_some_iff.1 h
  rw [List.take_succ_eq_append_getElem hk, List.mem_append, he]
  simp only [List.mem_singleton]
  exact or_comm

/-- What holds at the head of each round of a loop that stores u (or deletes) at the first k of the items hs. -/
def LRel (w1 : World) (g r : Nat) (v l : Value) (s : Stk) (hs : List Bs) (u : Option Bs) (base : Nat) (i : Value) (wr : World) : Prop :=
  ∃ (k : Nat) (m : List (Bs × Bs)), k ≤ hs.length ∧ i = .int .i64 k ∧ Blk wr g 55 #[.map (some r), v] ∧ MG Value.string wr r m ∧ (∀ q, getG m q = if q ∈ hs.take k then u else getG s q) ∧
    wr.ownsRow 0 9 1 v s.length (cellsS (s.map (·.1))) ∧ wr.ownsRow base 9 1 l hs.length (cellsS hs) ∧ Fr (fun i => i = r) w1 wr

theorem lrel_next {w1 wr w3 : World} {g r base : Nat} {v l : Value} {s : Stk} {hs : List Bs} {u : Option Bs} {k : Nat} {x : Bs} {m m' : List (Bs × Bs)} (hlt : k < hs.length) (hx : hs[k]? = some x) (hgr : g ≠ r)
    (hb : Blk wr g 55 #[.map (some r), v]) (hm : MG Value.string wr r m) (hg : ∀ q, getG m q = if q ∈ hs.take k then u else getG s q) (hv : wr.ownsRow 0 9 1 v s.length (cellsS (s.map (·.1)))) (hl : wr.ownsRow base 9 1 l hs.length (cellsS hs)) (hf : Fr (fun i => i = r) w1 wr)
    (hm' : MG Value.string w3 r m') (hg' : ∀ q, getG m' q = if q = x then u else getG m q) (hf' : Fr (fun i => i = r) wr w3) : LRel w1 g r v l s hs u base (.int .i64 ((k : Int) + 1)) w3 := by
  obtain ⟨es, c, hmp, _⟩ := hm
  refine ⟨k + 1, m', by omega, by simp, hb.fr hf' hgr, hm', fun q => ?_, own_fr hv hf' (fun i hi e => own_ne_map hv hmp (by rw [← e]; exact hi)), own_fr hl hf' (fun i hi e => own_ne_map hl hmp (by rw [← e]; exact hi)), hf.trans hf'⟩
  rw [hg' q, hg q]
  have := take_mem hx q
  by_cases h1 : q = x
  · rw [if_pos h1, if_pos (this.2 (.inl h1))]
  · rw [if_neg h1]
    by_cases h2 : q ∈ hs.take k
    · rw [if_pos h2, if_pos (this.2 (.inr h2))]
    · rw [if_neg h2, if_neg (fun h => (this.1 h).elim h1 h2)]

set_option maxRecDepth 100000 in
set_option maxHeartbeats 1000000 in
theorem release_any (g r : Nat) (v : Value) (s : Stk) (o : Bs) (w : World) (h : IsS w g r v s) : Calls Try.prog 25 #[.pointer (some ⟨g, 0, none⟩), .string o] w (LeftS g r v w (sRelease s o, (held s o).length)) := by
  have hle := held_le s o
  have hs5 := h.ok.le
  have hl5 : ((held s o).length : Int) ≤ 512 := by omega
  go_enter Try.func25, Try.ntmps25
  go_wp2_with fail
  refine (held_any g r v s o w h).mono ?_
  rintro e w1 ⟨l, rfl, hown, hb⟩
  have h1 := h.same (Same.of hb)
  obtain ⟨A, cap, hl, hn, _⟩ := row_form hown
  subst hl
  obtain ⟨m, hm, hg⟩ := h1.map
  have hR : LRel w1 g r v (.slice A (held s o).length cap) s (held s o) (some nul) w.heap.size (.int .i64 0) w1 := ⟨0, m, by omega, rfl, h1.blk, hm, fun q => by simp [hg q], h1.row, hown, Fr.refl _ _⟩
  have H := Lib.hid h
  have H1 := Lib.hid h1
  clear h h1 hm hg hown
  go_wp2
  go_loopw [13] (fun i wr => LRel w1 g r v (.slice A (held s o).length cap) s (held s o) (some nul) w.heap.size i wr) (fun i _ => (held s o).length - (intOf i).toNat)
  case atStart => exact hR
  case round =>
    obtain ⟨k, m, hk, rfl, hbk, hm, hg, hv, hl, hf⟩ := hrel
    clear hR
    have d0 := hbk.cell 0
    simp at d0
    by_cases hlt : k < (held s o).length
    · obtain ⟨x, hx⟩ : ∃ x, (held s o)[k]? = some x := ⟨(held s o)[k], List.getElem?_eq_getElem hlt⟩
      obtain ⟨A', cap', hae, _, hcl⟩ := row_form hl
      simp only [Value.slice.injEq, true_and] at hae
      obtain ⟨rfl, rfl⟩ := hae
      obtain ⟨gi, rfl, hcell, _, _⟩ := hcl k _ (cellsS_get hx)
      have HX := Lib.hid hx
      have HG := Lib.hid hg
      clear hx hg hcl
      go_wp2_with ((with_reducible show wpList _ _ _ (⟨_, Op.mapUpdate _ _ _ _, _, _, _, _⟩ :: _) _ _); refine wpList_mapUpdate_MG rfl _ _ _ rfl Try.underlying53 Try.underlying9 x nul rfl rfl rfl hm ?_; intro w3 m3 hm3 hg3 hf3; have HE := Lib.hid (lrel_next hlt HX.out H1.out.gr hbk hm HG.out hv hl hf hm3 hg3 hf3); clear hg3)
      go_roundw
      case rel => exact HE.out
      case measure => simp [intOf]; omega
    · have hk2 : k = (held s o).length := by omega
      subst hk2
      rw [List.take_length] at hg
      have HG := Lib.hid hg
      clear hg
      go_wp2
      go_ret
      refine ⟨rfl, v, ⟨hbk, ⟨m, hm, fun q => ?_⟩, ?_, sRelease_ok H.out.ok o⟩, ((Same.of hb).to _).trans (hf.mono fun i _ e => .inr (.inl e)), fun _ hi => .inl hi⟩
      · rw [HG.out q, release_get H.out.ok]
      · show _ = _ ∧ _
        rw [show (sRelease s o, ((held s o).length : Int)).1 = sRelease s o from rfl, sRelease_fst, show (sRelease s o).length = s.length from by unfold sRelease; rw [List.length_map]]
        exact hv

end Go.Proofs.Ytholaaojcpifnaa
