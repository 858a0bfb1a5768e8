/-
  The walks of the reference's has, bin, Full, Fullest, Len and Same.
-/
import Derived.Test.YteokognbnilkmaaRefa
import Derived.Test.YteokognbnilkmaaScript
namespace Go.Proofs.Yteokognbnilkmaa
open Go.RowKit

theorem box45 (w : World) (c : Nat) (A : Option Addr) (n cap : Nat) : Same w (w.alloc (.cells #[.int .i64 c, .slice A n cap] 45)) := (Fr.refl _ _).alloc _
theorem has_hit {x : Bs} {bs : Bins} {b : Bin} (hb : b ∈ bs) (hx : x ∈ b.items) : (fnd (pHas x) bs).isSome = true := by
  cases hf : fnd (pHas x) bs with
  | some _ => rfl
  | none =>
    have := fnd_none_iff.1 hf b hb
    unfold pHas at this
    simp [hx] at this

set_option maxRecDepth 100000 in
set_option maxHeartbeats 1000000 in
theorem has_any (K : Nat → Prop) (c : Nat) (A : Option Addr) (n cap : Nat) (bs : Bins) (x : Bs) (w : World) (h : RB K w A n bs) (hle : ∀ b ∈ bs, b.items.length ≤ 32) : Calls Try.prog 29 #[rv c A n cap, .string x] w (Still w (.bool (fnd (pHas x) bs).isSome)) := by
  have hs := box45 w c A n cap
  have h1 := h.same hs
  have hn := h.2.1
  have hbl := h.1
  have H := Lib.hid h1
  have HL := Lib.hid hle
  obtain ⟨r, hr⟩ : ∃ r, (fnd (pHas x) bs).isSome = r := ⟨_, rfl⟩
  have HR := Lib.hid hr
  rw [hr]
  unfold rv
  have hn2 : (n : Int) ≤ 16 := by omega
  clear h h1 hle hr
  go_enter Try.func29, Try.ntmps29
  go_wp2
  go_loop [5] (fun i => ∃ k : Nat, k ≤ n ∧ i = .int .i64 k ∧ Hid (∀ b ∈ bs.take k, x ∉ b.items)) (fun i => n - (intOf i).toNat)
  case atStart => exact ⟨0, by omega, rfl, fun b hb => by simp at hb⟩
  case round =>
    obtain ⟨k, hk, rfl, hno⟩ := hrel
    by_cases hlt : k < n
    · obtain ⟨b, hb⟩ : ∃ b, bs[k]? = some b := ⟨bs[k]'(by omega), List.getElem?_eq_getElem _⟩
      obtain ⟨g, o, B, capB, hA, c0, c1, _, hrs, _⟩ := H.out.2.2.2 k b hb
      subst hA
      have hlt2 : (k : Int) < (n : Int) := by omega
      have hil := HL.out b (List.mem_of_getElem? hb)
      have hil2 : (b.items.length : Int) ≤ 32 := by omega
      have HB := Lib.hid hb
      have HRS := Lib.hid hrs
      clear hb hrs c0
      go_wp2
      go_loop [6] (fun j => ∃ m : Nat, m ≤ b.items.length ∧ j = .int .i64 m ∧ Hid (x ∉ b.items.take m)) (fun j => b.items.length - (intOf j).toNat)
      case atStart => exact ⟨0, by omega, rfl, by simp [Hid]⟩
      case round =>
        obtain ⟨m, hm, rfl, hnm⟩ := hrel
        by_cases hml : m < b.items.length
        · obtain ⟨y, hy⟩ : ∃ y, b.items[m]? = some y := ⟨b.items[m], List.getElem?_eq_getElem hml⟩
          obtain ⟨g', o', hB, cy, _⟩ := HRS.out.2.2 m y hy
          subst hB
          have hml2 : (m : Int) < (b.items.length : Int) := by omega
          by_cases hyx : y = x
          · have ky : (y.toList == x.toList) = true := (Lib.bytes_beq_iff _ _).2 hyx
            have HT : Hid (r = true) := by unfold Hid; rw [← HR.out]; exact has_hit (List.mem_of_getElem? HB.out) (by rw [← hyx]; exact List.mem_of_getElem? hy)
            clear hyx hy
            go_wp2
            go_ret
            exact ⟨by rw [HT.out]; rfl, hs⟩
          · have ky : (y.toList == x.toList) = false := (Lib.bytes_beq_false_iff _ _).2 hyx
            have HN : Hid (x ∉ b.items.take (m + 1)) := by
              unfold Hid
              rw [List.take_add_one, hy]
              intro hx
              rcases List.mem_append.1 hx with hx | hx
              · exact hnm hx
              · simp at hx; exact hyx hx.symm
            clear hyx hy
            go_wp2
            go_round
            case rel => exact ⟨m + 1, by omega, by go_num, HN⟩
            case measure => simp [intOf]; omega
        · have HN : Hid (∀ b ∈ bs.take (k + 1), x ∉ b.items) := by
            unfold Hid
            intro b' hb'
            rw [List.take_add_one, HB.out] at hb'
            rcases List.mem_append.1 hb' with hb' | hb'
            · exact hno b' hb'
            · simp at hb'
              subst hb'
              have := hnm.out
              rwa [List.take_of_length_le (by omega)] at this
          go_wp2
          go_round
          case rel => exact ⟨k + 1, by omega, by go_num, HN⟩
          case measure => simp [intOf]; omega
    · have HF : Hid (r = false) := by
        unfold Hid
        rw [← HR.out, fnd_none (fun b hb => ?_)]
        · rfl
        · have := hno.out b (by rw [List.take_of_length_le (by omega)]; exact hb)
          unfold pHas
          simp [this]
      go_wp2
      go_ret
      exact ⟨by rw [HF.out]; rfl, hs⟩

/-- What the reference's bin returns. -/
def binI (c : Nat) (key : Bs) (bs : Bins) : Int := match fnd (pKey c key) bs with
  | some i => (i : Int)
  | none => match fnd pEmpty bs with
    | some i => (i : Int)
    | none => -1
theorem binI_key {c : Nat} {key : Bs} {bs : Bins} {k : Nat} {b : Bin} (h : ∀ x ∈ bs.take k, pKey c key x = false) (hb : bs[k]? = some b) (hp : pKey c key b = true) : binI c key bs = k := by unfold binI; rw [fnd_hit h hb hp]
theorem binI_empty {c : Nat} {key : Bs} {bs : Bins} {k : Nat} {b : Bin} (h0 : ∀ x ∈ bs, pKey c key x = false) (h : ∀ x ∈ bs.take k, pEmpty x = false) (hb : bs[k]? = some b) (hp : pEmpty b = true) : binI c key bs = k := by unfold binI; rw [fnd_none h0, fnd_hit h hb hp]
theorem binI_none {c : Nat} {key : Bs} {bs : Bins} (h0 : ∀ x ∈ bs, pKey c key x = false) (h : ∀ x ∈ bs, pEmpty x = false) : binI c key bs = -1 := by unfold binI; rw [fnd_none h0, fnd_none h]

set_option maxRecDepth 100000 in
set_option maxHeartbeats 2000000 in
theorem bin_any (K : Nat → Prop) (c : Nat) (A : Option Addr) (n cap : Nat) (bs : Bins) (key : Bs) (w : World) (h : RB K w A n bs) (ok : BOk c bs) (hk : key ≠ nul) : Calls Try.prog 30 #[rv c A n cap, .string key] w (Still w (.int .i64 (binI c key bs))) := by
  have hs := box45 w c A n cap
  have h1 := h.same hs
  have hn := h.2.1
  have hbl := h.1
  have H := Lib.hid h1
  have OK := Lib.hid ok
  have hc1 := ok.c1
  have hc2 := ok.c2
  have HK := Lib.hid hk
  obtain ⟨r, hr⟩ : ∃ r, binI c key bs = r := ⟨_, rfl⟩
  have HR := Lib.hid hr
  rw [hr]
  unfold rv
  have hn2 : (n : Int) ≤ 16 := by omega
  clear h h1 hr ok hk
  go_enter Try.func30, Try.ntmps30
  go_wp2
  go_loop [5] (fun i => ∃ k : Nat, k ≤ n ∧ i = .int .i64 k ∧ Hid (∀ b ∈ bs.take k, pKey c key b = false)) (fun i => n - (intOf i).toNat)
  case atStart => exact ⟨0, by omega, rfl, fun b hb => by simp at hb⟩
  case round =>
    obtain ⟨k, hk, rfl, hno⟩ := hrel
    by_cases hlt : k < n
    · obtain ⟨b, hb⟩ : ∃ b, bs[k]? = some b := ⟨bs[k]'(by omega), List.getElem?_eq_getElem _⟩
      obtain ⟨g, o, B, capB, hA, c0, c1, _, _, _⟩ := H.out.2.2.2 k b hb
      subst hA
      have hlt2 : (k : Int) < (n : Int) := by omega
      have hil := OK.out.le b (List.mem_of_getElem? hb)
      have hnk := OK.out.nk b (List.mem_of_getElem? hb)
      by_cases hp : pKey c key b = true
      · have HT : Hid (r = (k : Int)) := by unfold Hid; rw [← HR.out]; exact binI_key hno.out hb hp
        unfold pKey at hp
        simp at hp
        obtain ⟨p1, p2⟩ := hp
        have p3 : 0 < b.items.length := by
          rcases Nat.eq_zero_or_pos b.items.length with e | e
          · exact absurd ((hnk (List.eq_nil_of_length_eq_zero e)).symm.trans p1) (Ne.symm HK.out)
          · exact e
        have q1 : (0 : Int) < (b.items.length : Int) := by omega
        have q2 : (b.items.length : Int) < (c : Int) := by omega
        have ky : (b.key.toList == key.toList) = true := (Lib.bytes_beq_iff _ _).2 p1
        clear p1 p2 p3 hnk hb
        go_wp2
        go_ret
        exact ⟨by rw [HT.out]; rfl, hs⟩
      · have HN := Lib.hid (take_step hno.out hb (by simpa using hp))
        have hcase : ¬ (0 : Int) < (b.items.length : Int) ∨ ((0 : Int) < (b.items.length : Int) ∧ ¬ (b.items.length : Int) < (c : Int)) ∨ ((0 : Int) < (b.items.length : Int) ∧ (b.items.length : Int) < (c : Int) ∧ (b.key.toList == key.toList) = false) := by
          by_cases q1 : (0 : Int) < (b.items.length : Int)
          · by_cases q2 : (b.items.length : Int) < (c : Int)
            · refine .inr (.inr ⟨q1, q2, (Lib.bytes_beq_false_iff _ _).2 (fun e => hp ?_)⟩)
              unfold pKey
              simp [e]
              omega
            · exact .inr (.inl ⟨q1, q2⟩)
          · exact .inl q1
        clear hp hnk hb
        rcases hcase with q1 | ⟨q1, q2⟩ | ⟨q1, q2, ky⟩
        all_goals
          go_wp2
          go_round
          case rel => exact ⟨k + 1, by omega, by go_num, HN⟩
          case measure => simp [intOf]; omega
    · have HA0 : Hid (∀ b ∈ bs, pKey c key b = false) := by
        have := hno.out
        rw [List.take_of_length_le (by omega)] at this
        exact this
      clear hno
      go_wp2
      go_loop [7] (fun i => ∃ k : Nat, k ≤ n ∧ i = .int .i64 k ∧ Hid (∀ b ∈ bs.take k, pEmpty b = false)) (fun i => n - (intOf i).toNat)
      case atStart => exact ⟨0, by omega, rfl, fun b hb => by simp at hb⟩
      case round =>
        obtain ⟨k, hk, rfl, hno⟩ := hrel
        by_cases hlt : k < n
        · obtain ⟨b, hb⟩ : ∃ b, bs[k]? = some b := ⟨bs[k]'(by omega), List.getElem?_eq_getElem _⟩
          obtain ⟨g, o, B, capB, hA, c0, c1, _, _, _⟩ := H.out.2.2.2 k b hb
          subst hA
          have hlt2 : (k : Int) < (n : Int) := by omega
          have hil := OK.out.le b (List.mem_of_getElem? hb)
          by_cases hp : pEmpty b = true
          · have HT : Hid (r = (k : Int)) := by unfold Hid; rw [← HR.out]; exact binI_empty HA0.out hno.out hb hp
            have q1 : ((b.items.length : Int) == 0) = true := by unfold pEmpty at hp; simp at hp; simp [hp]
            clear hp hb
            go_wp2
            go_ret
            exact ⟨by rw [HT.out]; rfl, hs⟩
          · have HN := Lib.hid (take_step hno.out hb (by simpa using hp))
            have q1 : ((b.items.length : Int) == 0) = false := by
              unfold pEmpty at hp
              simp at hp
              have : 0 < b.items.length := List.length_pos_iff.2 hp
              simp
              omega
            clear hp hb
            go_wp2
            go_round
            case rel => exact ⟨k + 1, by omega, by go_num, HN⟩
            case measure => simp [intOf]; omega
        · have HT : Hid (r = -1) := by
            unfold Hid
            have := hno.out
            rw [List.take_of_length_le (by omega)] at this
            rw [← HR.out]
            exact binI_none HA0.out this
          go_wp2
          go_ret
          exact ⟨by rw [HT.out]; rfl, hs⟩

set_option maxRecDepth 100000 in
set_option maxHeartbeats 1000000 in
theorem rfull_any (K : Nat → Prop) (c : Nat) (A : Option Addr) (n cap : Nat) (bs : Bins) (w : World) (h : RB K w A n bs) (ok : BOk c bs) : Calls Try.prog 21 #[rv c A n cap] w (Still w (.tuple #[.int .i64 ((fnd (pFull c) bs).getD 0 : Nat), .bool (fnd (pFull c) bs).isSome])) := by
  have hs := box45 w c A n cap
  have h1 := h.same hs
  have hn := h.2.1
  have hbl := h.1
  have H := Lib.hid h1
  have OK := Lib.hid ok
  have hc2 := ok.c2
  obtain ⟨r, hr⟩ : ∃ r, fnd (pFull c) bs = r := ⟨_, rfl⟩
  have HR := Lib.hid hr
  rw [hr]
  unfold rv
  have hn2 : (n : Int) ≤ 16 := by omega
  have bx := Blk.new w 45 #[.int .i64 c, .slice A n cap]
  generalize hW : w.alloc (.cells #[.int .i64 c, .slice A n cap] 45) = W at hs H bx
  have HW := Lib.hid hW
  clear h h1 hr ok hW
  have hR : ∃ k : Nat, k ≤ n ∧ (Value.int .i64 0) = .int .i64 k ∧ Hid (∀ b ∈ bs.take k, pFull c b = false) ∧ ∃ m, W = W.drewN m := ⟨0, by omega, rfl, fun b hb => by simp at hb, 0, rfl⟩
  go_enter Try.func21, Try.ntmps21
  go_wp2_with fail
  rw [HW.out]
  have d0 := bx.cell 0
  have d1 := bx.cell 1
  simp at d0 d1
  go_loopw [4] (fun i wr => ∃ k : Nat, k ≤ n ∧ i = .int .i64 k ∧ Hid (∀ b ∈ bs.take k, pFull c b = false) ∧ ∃ m, wr = W.drewN m) (fun i _ => n - (intOf i).toNat)
  case atStart => exact hR
  case round =>
    obtain ⟨k, hk, rfl, hno, m, rfl⟩ := hrel
    clear hR
    by_cases hlt : k < n
    · obtain ⟨b, hb⟩ : ∃ b, bs[k]? = some b := ⟨bs[k]'(by omega), List.getElem?_eq_getElem _⟩
      obtain ⟨g, o, B, capB, hA, c0, c1, _, _, _⟩ := H.out.2.2.2 k b hb
      subst hA
      have hlt2 : (k : Int) < (n : Int) := by omega
      have hlt3 : (0 : Int) ≤ (k : Int) := by omega
      have hil := OK.out.le b (List.mem_of_getElem? hb)
      by_cases hp : b.items.length = c
      · have HT : Hid (r = some k) := by unfold Hid; rw [← HR.out]; exact fnd_hit hno.out hb (by unfold pFull; simp; omega)
        have q1 : ((b.items.length : Int) == (c : Int)) = true := by simp [hp]
        clear hp hb
        go_wp2
        go_quiet (fail)
        go_wp2
        refine bodyPost_ret (results_tmp2 rfl _ _ _) rfl ?_
        exact ⟨by rw [HT.out]; rfl, Fr.drewN (Fr.drewN hs _) _⟩
      · have HN := Lib.hid (take_step hno.out hb (by unfold pFull; simp; omega))
        have q1 : ((b.items.length : Int) == (c : Int)) = false := by rw [beq_nat]; exact decide_eq_false hp
        clear hp hb
        go_wp2
        go_quiet (fail)
        go_wp2
        go_roundw
        case rel => exact ⟨k + 1, by omega, by simp, HN, _, rfl⟩
        case measure => simp [intOf]; omega
    · have HT : Hid (r = none) := by
        unfold Hid
        have := hno.out
        rw [List.take_of_length_le (by omega)] at this
        rw [← HR.out]
        exact fnd_none this
      go_wp2
      refine bodyPost_ret (results_tmp2 rfl _ _ _) rfl ?_
      exact ⟨by rw [HT.out]; rfl, Fr.drewN hs m⟩

end Go.Proofs.Yteokognbnilkmaa
