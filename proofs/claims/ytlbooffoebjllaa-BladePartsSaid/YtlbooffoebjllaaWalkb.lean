/-
  The walks of Start, Stop and Sharpen.
-/
import Derived.Test.YtlbooffoebjllaaWalka
namespace Go.Proofs.Ytlbooffoebjllaa
open Go.RowKit

/-- A call that returns an integer n, R of it and of the world behind it. -/
def RetI (R : Int → World → Prop) (e : Ending) (w' : World) : Prop := ∃ n, e = .returned (.int .i64 n) ∧ R n w'

set_option maxHeartbeats 400000 in
theorem start_pre (a : Option Addr) (w : World) (R : Int → World → Prop)
    (hd : ∀ w1 r, Below w.heap.size w w1 → Blk w1 (w.heap.size + 1) 3 #[.int .i64 2] → Blk w1 w.heap.size 22 #[.pointer a] →
      Mp w1 r #[⟨.int .i64 1, .func (.func 31) #[] #[.pointer (some ⟨w.heap.size + 1, 0, none⟩), .pointer (some ⟨w.heap.size, 0, none⟩)], 0⟩,
        ⟨.int .i64 3, .func (.func 31) #[] #[.pointer (some ⟨w.heap.size + 1, 0, none⟩), .pointer (some ⟨w.heap.size, 0, none⟩)], 1⟩,
        ⟨.int .i64 4, .func (.func 23) #[] #[], 2⟩] 3 → Calls Try.prog 24 #[.pointer a, .map (some r)] w1 (RetI R)) :
    Calls Try.prog 13 #[.pointer a] w (RetI R) := by
  have H := Lib.hid hd
  clear hd
  have hmm := @run_makeMap Try.prog
  go_enter Try.func13, Try.ntmps13
  go_wp2_with fail
  refine (to_any a 2 w).mono ?_
  rintro e w1 ⟨rfl, hb1, hb2, hbel⟩
  go_wp2_with ((with_reducible show wpList _ _ _ (⟨_, Op.insert _ _ _ _, _, _, _, _⟩ :: _) _ _); refine wpList_insert_acc w1 rfl _ _ _ rfl Try.underlying51 Try.underlying3 rfl rfl rfl rfl (by first | assumption | exact Mp.new _ _ _) rfl (by first | assumption | exact (Below.refl _ _).alloc (Nat.le_refl _) _) (Nat.le_refl _) ?_; intro w9 hm9 hf9)
  have hsz := hbel.size
  have l1 := hb1.lt
  have l2 := hb2.lt
  refine (H.out _ _ (hbel.trans (hf9.mono hsz)) (hb1.below hf9 l1) (hb2.below hf9 l2) hm9).mono ?_
  rintro e w' ⟨n, rfl, hR⟩
  have HR := Lib.hid hR
  clear hR
  go_wp2
  go_ret
  exact ⟨n, rfl, HR.out⟩

/-- What a method of a blade leaves: the state, the code that it returns; nothing else turns. -/
def Left1 (g : Nat) (w : World) (x : St × Int) (n : Int) (w' : World) : Prop := n = x.2 ∧ IsB w' g x.1 ∧ Fr (fun i => i = g) w w'

theorem Left1.base {g : Nat} {w w1 w' : World} {x : St × Int} {n : Int} (h : Left1 g w1 x n w') (hb : Below w.heap.size w w1) : Left1 g w x n w' :=
  ⟨h.1, h.2.1, (Fr.of_new hb _).trans h.2.2⟩

theorem start_any (g : Nat) (s : St) (w : World) (h : IsB w g s) (hs : s.Ok) : Calls Try.prog 13 #[.pointer (some ⟨g, 0, none⟩)] w (RetI (Left1 g w s.start)) := by
  have hg := h.blk.lt
  refine start_pre _ w _ fun w1 r hb h1 h2 hm => ?_
  have h' : IsB w1 g s := h.blk.below hb hg
  have fin : ∀ n, s.start = ({ s with S := 2 }, 0) → (∃ i, Instr.findNow (.int .i64) (.int .i64 s.S) [⟨.int .i64 1, .func (.func 31) #[] #[.pointer (some ⟨w.heap.size + 1, 0, none⟩), .pointer (some ⟨w.heap.size, 0, none⟩)], 0⟩,
        ⟨.int .i64 3, .func (.func 31) #[] #[.pointer (some ⟨w.heap.size + 1, 0, none⟩), .pointer (some ⟨w.heap.size, 0, none⟩)], 1⟩,
        ⟨.int .i64 4, .func (.func 23) #[] #[], 2⟩] n = some (some (i, .func (.func 31) #[] #[.pointer (some ⟨w.heap.size + 1, 0, none⟩), .pointer (some ⟨w.heap.size, 0, none⟩)]))) → n = 0 → Calls Try.prog 24 #[.pointer (some ⟨g, 0, none⟩), .map (some r)] w1 (RetI (Left1 g w s.start)) := by
    rintro n hst ⟨i, hi⟩ rfl
    refine do_hit g r s _ _ w1 h' hm i 31 _ hi _ (call31 _ _ _) ?_
    refine (tofn_any g _ _ 2 s w1 h' h1 h2).mono ?_
    rintro e w' ⟨rfl, hB, hf⟩
    exact ⟨0, rfl, by rw [hst]; exact Left1.base ⟨rfl, hB, hf⟩ hb⟩
  rcases hs.s1 with e | e | e | e
  · exact fin 0 (by simp [St.start, e]) ⟨0, by rw [e]; rfl⟩ rfl
  · refine (do_miss g r s _ _ w1 h' hm (by rw [e]; rfl)).mono ?_
    rintro e' w' ⟨rfl, rfl⟩
    exact ⟨14, rfl, Left1.base ⟨by simp [St.start, e], by simp [St.start, e]; exact h', Fr.refl _ _⟩ hb⟩
  · exact fin 0 (by simp [St.start, e]) ⟨1, by rw [e]; rfl⟩ rfl
  · refine do_hit g r s _ _ w1 h' hm 2 23 #[] (by rw [e]; rfl) _ (call23 _) ?_
    refine (down_any w1).mono ?_
    rintro e' w' ⟨rfl, rfl⟩
    exact ⟨17, rfl, Left1.base ⟨by simp [St.start, e], by simp [St.start, e]; exact h', Fr.refl _ _⟩ hb⟩

theorem start_nil (w : World) : Calls Try.prog 13 #[.pointer none] w (RetI (fun n w' => n = 1 ∧ Below w.heap.size w w')) := by
  refine start_pre _ w _ fun w1 r hb h1 h2 hm => ?_
  refine (do_nil _ w1 ⟨_, rfl⟩).mono ?_
  rintro e' w' ⟨rfl, rfl⟩
  exact ⟨1, rfl, rfl, hb⟩

set_option maxHeartbeats 400000 in
theorem stop_pre (a : Option Addr) (w : World) (R : Int → World → Prop)
    (hd : ∀ w1 r g1 g2, Below w.heap.size w w1 → Blk w1 g1 3 #[.int .i64 3] → Blk w1 g2 22 #[.pointer a] →
      Mp w1 r #[⟨.int .i64 2, .func (.func 31) #[] #[.pointer (some ⟨g1, 0, none⟩), .pointer (some ⟨g2, 0, none⟩)], 0⟩] 1 → Calls Try.prog 24 #[.pointer a, .map (some r)] w1 (RetI R)) :
    Calls Try.prog 20 #[.pointer a] w (RetI R) := by
  have H := Lib.hid hd
  clear hd
  have hmm := @run_makeMap Try.prog
  go_enter Try.func20, Try.ntmps20
  go_wp2_with fail
  refine (to_any a 3 _).mono ?_
  rintro e w1 ⟨rfl, hb1, hb2, hbel⟩
  have hm0 : Mp w1 w.heap.size #[] 0 := (Mp.new w #[] 0).below hbel (by simp)
  rw [World.size_alloc] at hb1 hb2
  have hacc0 : Below w.heap.size w w1 := ((Below.refl _ _).alloc (Nat.le_refl _) _).trans (hbel.mono (by simp))
  have l1 := hb1.lt
  have l2 := hb2.lt
  go_wp2_with ((with_reducible show wpList _ _ _ (⟨_, Op.insert _ _ _ _, _, _, _, _⟩ :: _) _ _); refine wpList_insert_new rfl _ _ _ rfl Try.underlying51 Try.underlying3 rfl rfl rfl rfl hm0 rfl ?_; intro w9 hm9 hf9)
  refine (H.out _ _ _ _ (hacc0.trans (hf9.below hacc0.size (fun i _ h => by omega))) (hb1.fr hf9 (by omega)) (hb2.fr hf9 (by omega)) hm9).mono ?_
  rintro e w' ⟨n, rfl, hR⟩
  have HR := Lib.hid hR
  clear hR
  go_wp2
  go_ret
  exact ⟨n, rfl, HR.out⟩

theorem stop_any (g : Nat) (s : St) (w : World) (h : IsB w g s) (_hs : s.Ok) : Calls Try.prog 20 #[.pointer (some ⟨g, 0, none⟩)] w (RetI (Left1 g w s.stop)) := by
  have hg := h.blk.lt
  refine stop_pre _ w _ fun w1 r g1 g2 hb h1 h2 hm => ?_
  have h' : IsB w1 g s := h.blk.below hb hg
  by_cases e : s.S = 2
  · refine do_hit g r s _ _ w1 h' hm 0 31 _ (by rw [e]; rfl) _ (call31 _ _ _) ?_
    refine (tofn_any g _ _ 3 s w1 h' h1 h2).mono ?_
    rintro e' w' ⟨rfl, hB, hf⟩
    exact ⟨0, rfl, by simp only [St.stop, e, if_true]; exact Left1.base ⟨rfl, hB, hf⟩ hb⟩
  · have e0 : (s.S == 2) = false := by simpa using e
    refine (do_miss g r s _ _ w1 h' hm (by simp [Instr.findNow, Instr.sameNow, e0])).mono ?_
    rintro e' w' ⟨rfl, rfl⟩
    exact ⟨14, rfl, Left1.base ⟨by simp [St.stop, e], by simp [St.stop, e]; exact h', Fr.refl _ _⟩ hb⟩

theorem stop_nil (w : World) : Calls Try.prog 20 #[.pointer none] w (RetI (fun n w' => n = 1 ∧ Below w.heap.size w w')) := by
  refine stop_pre _ w _ fun w1 r _ _ hb h1 h2 hm => ?_
  refine (do_nil _ w1 ⟨_, rfl⟩).mono ?_
  rintro e' w' ⟨rfl, rfl⟩
  exact ⟨1, rfl, rfl, hb⟩

set_option maxHeartbeats 400000 in
theorem sharpen_pre (a : Option Addr) (w : World) (R : Int → World → Prop)
    (hd : ∀ w1 r, Below w.heap.size w w1 → Blk w1 w.heap.size 22 #[.pointer a] →
      Mp w1 r #[⟨.int .i64 1, .func (.func 30) #[] #[.pointer (some ⟨w.heap.size, 0, none⟩)], 0⟩, ⟨.int .i64 3, .func (.func 30) #[] #[.pointer (some ⟨w.heap.size, 0, none⟩)], 1⟩,
        ⟨.int .i64 4, .func (.func 30) #[] #[.pointer (some ⟨w.heap.size, 0, none⟩)], 2⟩] 3 → Calls Try.prog 24 #[.pointer a, .map (some r)] w1 (RetI R)) :
    Calls Try.prog 21 #[.pointer a] w (RetI R) := by
  have H := Lib.hid hd
  clear hd
  have hmm := @run_makeMap Try.prog
  have hm0 : Mp ((w.alloc (.cells #[.pointer a] 22)).alloc (.map #[] 0)) (w.heap.size + 1) #[] 0 := by simpa using Mp.new (w.alloc (.cells #[.pointer a] 22)) #[] 0
  go_enter Try.func21, Try.ntmps21
  go_wp2_with ((with_reducible show wpList _ _ _ (⟨_, Op.insert _ _ _ _, _, _, _, _⟩ :: _) _ _); refine wpList_insert_acc (w.alloc (.cells #[.pointer a] 22)) rfl _ _ _ rfl Try.underlying51 Try.underlying3 rfl rfl rfl rfl (by assumption) rfl (by first | assumption | exact (Below.refl _ _).alloc (Nat.le_refl _) _) (by simp) ?_; intro w9 hm9 hf9)
  refine (H.out _ _ (((Below.refl _ _).alloc (Nat.le_refl _) _).trans (hf9.mono (by simp))) ((Blk.new w 22 #[.pointer a]).below hf9 (by simp)) hm9).mono ?_
  rintro e w' ⟨n, rfl, hR⟩
  have HR := Lib.hid hR
  clear hR
  go_wp2
  go_ret
  exact ⟨n, rfl, HR.out⟩

theorem sharpen_any (g : Nat) (s : St) (w : World) (h : IsB w g s) (hs : s.Ok) : Calls Try.prog 21 #[.pointer (some ⟨g, 0, none⟩)] w (RetI (Left1 g w s.sharpen)) := by
  have hg := h.blk.lt
  refine sharpen_pre _ w _ fun w1 r hb h1 hm => ?_
  have h' : IsB w1 g s := h.blk.below hb hg
  by_cases e : s.S = 2
  · refine (do_miss g r s _ _ w1 h' hm (by rw [e]; rfl)).mono ?_
    rintro e' w' ⟨rfl, rfl⟩
    exact ⟨14, rfl, Left1.base ⟨by simp [St.sharpen, e], by simp [St.sharpen, e]; exact h', Fr.refl _ _⟩ hb⟩
  · obtain ⟨i, hi⟩ : ∃ i, Instr.findNow (.int .i64) (.int .i64 s.S) [⟨.int .i64 1, .func (.func 30) #[] #[.pointer (some ⟨w.heap.size, 0, none⟩)], 0⟩, ⟨.int .i64 3, .func (.func 30) #[] #[.pointer (some ⟨w.heap.size, 0, none⟩)], 1⟩,
        ⟨.int .i64 4, .func (.func 30) #[] #[.pointer (some ⟨w.heap.size, 0, none⟩)], 2⟩] 0 = some (some (i, .func (.func 30) #[] #[.pointer (some ⟨w.heap.size, 0, none⟩)])) := by
      rcases hs.s1 with x | x | x | x
      · exact ⟨0, by rw [x]; rfl⟩
      · exact absurd x e
      · exact ⟨1, by rw [x]; rfl⟩
      · exact ⟨2, by rw [x]; rfl⟩
    refine do_hit g r s _ _ w1 h' hm i 30 _ hi _ (call30 _ _) ?_
    refine (sharpfn_any g _ s w1 h' h1).mono ?_
    rintro e' w' ⟨rfl, hB, hf⟩
    exact ⟨0, rfl, by simp only [St.sharpen, e, if_false]; exact Left1.base ⟨rfl, hB, hf⟩ hb⟩

theorem sharpen_nil (w : World) : Calls Try.prog 21 #[.pointer none] w (RetI (fun n w' => n = 1 ∧ Below w.heap.size w w')) := by
  refine sharpen_pre _ w _ fun w1 r hb h1 hm => ?_
  refine (do_nil _ w1 ⟨_, rfl⟩).mono ?_
  rintro e' w' ⟨rfl, rfl⟩
  exact ⟨1, rfl, rfl, hb⟩

end Go.Proofs.Ytlbooffoebjllaa
