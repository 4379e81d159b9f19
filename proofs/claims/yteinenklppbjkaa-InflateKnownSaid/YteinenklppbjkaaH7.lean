/- Layer 6: Lengths. -/
import Derived.Test.YteinenklppbjkaaH6

set_option linter.unusedVariables false

set_option linter.unusedSimpArgs false

open Go.RowKit

namespace Go.Proofs.Yteinenklppbjkaa

set_option maxRecDepth 10000

def upto (fr : List Int) (i : Nat) : List Nat := (List.range i).filter fun j => decide (0 < fr.getD j 0)
theorem upto_succ (fr : List Int) (i : Nat) : upto fr (i + 1) = if 0 < fr.getD i 0 then upto fr i ++ [i] else upto fr i := by
  unfold upto
  rw [List.range_succ, List.filter_append]
  by_cases h : 0 < fr.getD i 0
  · rw [if_pos h, List.filter_cons_of_pos (by simpa using h)]; simp
  · rw [if_neg h, List.filter_cons_of_neg (by simpa using h)]; simp
theorem upto_len (fr : List Int) (i : Nat) : (upto fr i).length ≤ i := by
  unfold upto; exact Nat.le_trans (List.length_filter_le _ _) (by simp)
theorem shl_small (K : Nat) (h : K ≤ 15) : shlF .i64 1 (K : Int) = ((2 ^ K : Nat) : Int) := by
  have : ∀ K, K < 16 → shlF .i64 1 ((K : Nat) : Int) = ((2 ^ K : Nat) : Int) := by decide
  exact this K (by omega)
section

variable {fr : List Int} {c c0 : Nat} {Kp : AV → AH → Prop}

theorem lengths_call {limit : Int} (hl : fr.length ≤ 2000) : CallA Try.prog 42 [.sl 0 0 0 fr.length c0, .int .i64 limit] [.one false 0 (.ints .i64 fr c)]
    (fun r M => ∃ g' c', r = .tup [.sl 1 g' 0 (lengthsF fr limit).1.length c', .int .i64 (lengthsF fr limit).2] ∧ M = [.one false 0 (.ints .i64 fr c), .one true g' (.ints .u8 (lengthsF fr limit).1 c')] ∧ (lengthsF fr limit).1.length ≤ c') Kp := by
  have bad : lenB fr limit = true → lengthsF fr limit = ([], 1) := fun h => by unfold lengthsF; rw [if_pos h]
  refine CallA.post_pick ?_
  refine CallA.post_view ?_
  refine step42 (fun _ => [0]) [] rfl ?_
  repeat ((conv => whnf); first | with_reducible refine O_step ?_ | with_reducible refine S_step ?_ | with_reducible refine D_step ?_ | with_reducible refine RO.exit ?_ | with_reducible refine RO.ret ?_ | ((with_reducible refine And.intro ?sc ?_); case sc => exact side) | ((with_reducible refine br_f ?sc ?_); case sc => exact sideB) | ((with_reducible refine br_t ?sc ?_); case sc => exact sideB))
  refine And.intro (fun b1 => ?_) (fun b1 => ?_)
  · have e := bad (by unfold lenB; rw [b1]; rfl)
    repeat ((conv => whnf); first | with_reducible refine O_step ?_ | with_reducible refine S_step ?_ | with_reducible refine D_step ?_ | with_reducible refine RO.exit ?_ | with_reducible refine RO.ret ?_ | ((with_reducible refine And.intro ?sc ?_); case sc => exact side) | ((with_reducible refine br_f ?sc ?_); case sc => exact sideB) | ((with_reducible refine br_t ?sc ?_); case sc => exact sideB))
    refine ⟨_, _, Vw.canon (x := .ints .u8 [] 0) ⟨rfl, rfl⟩ (cnL_cons (cnV_tup (cnL_cons (by simp only [cnV]; exact .inr rfl) (cnL_cons (cnV_refl _ _) (cnL_nil _)))) (cnL_nil _)), [.sha 0, .own 1], .tup [.sl 1 0 0 0 0, .int .i64 1], [.one false 0 (.ints .i64 fr c), .one true 0 (.ints .u8 [] 0)], ⟨⟨⟨rfl, _, rfl, rfl⟩, ⟨rfl, rfl⟩, trivial⟩, rfl, ⟨trivial, trivial, trivial⟩, rfl, ?_⟩, ?_⟩
    · intro i hi
      match i, hi with
      | 0, _ => exact .inr rfl
    · rw [e]
      exact ⟨0, 0, rfl, rfl, Nat.le_refl _⟩
  repeat ((conv => whnf); first | with_reducible refine O_step ?_ | with_reducible refine S_step ?_ | with_reducible refine D_step ?_ | with_reducible refine RO.exit ?_ | with_reducible refine RO.ret ?_ | ((with_reducible refine And.intro ?sc ?_); case sc => exact side) | ((with_reducible refine br_f ?sc ?_); case sc => exact sideB) | ((with_reducible refine br_t ?sc ?_); case sc => exact sideB))
  refine And.intro (fun b2 => ?_) (fun b2 => ?_)
  · have e := bad (by unfold lenB; rw [b2]; simp)
    repeat ((conv => whnf); first | with_reducible refine O_step ?_ | with_reducible refine S_step ?_ | with_reducible refine D_step ?_ | with_reducible refine RO.exit ?_ | with_reducible refine RO.ret ?_ | ((with_reducible refine And.intro ?sc ?_); case sc => exact side) | ((with_reducible refine br_f ?sc ?_); case sc => exact sideB) | ((with_reducible refine br_t ?sc ?_); case sc => exact sideB))
    refine ⟨_, _, Vw.canon (x := .ints .u8 [] 0) ⟨rfl, rfl⟩ (cnL_cons (cnV_tup (cnL_cons (by simp only [cnV]; exact .inr rfl) (cnL_cons (cnV_refl _ _) (cnL_nil _)))) (cnL_nil _)), [.sha 0, .own 1], .tup [.sl 1 0 0 0 0, .int .i64 1], [.one false 0 (.ints .i64 fr c), .one true 0 (.ints .u8 [] 0)], ⟨⟨⟨rfl, _, rfl, rfl⟩, ⟨rfl, rfl⟩, trivial⟩, rfl, ⟨trivial, trivial, trivial⟩, rfl, ?_⟩, ?_⟩
    · intro i hi
      match i, hi with
      | 0, _ => exact .inr rfl
    · rw [e]
      exact ⟨0, 0, rfl, rfl, Nat.le_refl _⟩
  repeat ((conv => whnf); first | with_reducible refine O_step ?_ | with_reducible refine S_step ?_ | with_reducible refine D_step ?_ | with_reducible refine RO.exit ?_ | with_reducible refine RO.ret ?_ | ((with_reducible refine And.intro ?sc ?_); case sc => exact side) | ((with_reducible refine br_f ?sc ?_); case sc => exact sideB) | ((with_reducible refine br_t ?sc ?_); case sc => exact sideB))
  refine And.intro (fun b3 => ?_) (fun b3 => ?_)
  · have b3' : (320 : Int) < fr.length := by simpa using b3
    have e := bad (by unfold lenB; rw [show decide (320 < fr.length) = true by rw [decide_eq_true_eq]; omega]; simp)
    repeat ((conv => whnf); first | with_reducible refine O_step ?_ | with_reducible refine S_step ?_ | with_reducible refine D_step ?_ | with_reducible refine RO.exit ?_ | with_reducible refine RO.ret ?_ | ((with_reducible refine And.intro ?sc ?_); case sc => exact side) | ((with_reducible refine br_f ?sc ?_); case sc => exact sideB) | ((with_reducible refine br_t ?sc ?_); case sc => exact sideB))
    refine ⟨_, _, Vw.canon (x := .ints .u8 [] 0) ⟨rfl, rfl⟩ (cnL_cons (cnV_tup (cnL_cons (by simp only [cnV]; exact .inr rfl) (cnL_cons (cnV_refl _ _) (cnL_nil _)))) (cnL_nil _)), [.sha 0, .own 1], .tup [.sl 1 0 0 0 0, .int .i64 1], [.one false 0 (.ints .i64 fr c), .one true 0 (.ints .u8 [] 0)], ⟨⟨⟨rfl, _, rfl, rfl⟩, ⟨rfl, rfl⟩, trivial⟩, rfl, ⟨trivial, trivial, trivial⟩, rfl, ?_⟩, ?_⟩
    · intro i hi
      match i, hi with
      | 0, _ => exact .inr rfl
    · rw [e]
      exact ⟨0, 0, rfl, rfl, Nat.le_refl _⟩
  have b3' : ¬ (320 : Int) < fr.length := by simpa using b3
  have b1' : ¬ limit < 1 := by simpa using b1
  have b2' : ¬ 15 < limit := by simpa using b2
  repeat ((conv => whnf); first | with_reducible refine O_step ?_ | with_reducible refine S_step ?_ | with_reducible refine D_step ?_ | with_reducible refine RO.exit ?_ | with_reducible refine RO.ret ?_ | ((with_reducible refine And.intro ?sc ?_); case sc => exact side) | ((with_reducible refine br_f ?sc ?_); case sc => exact sideB) | ((with_reducible refine br_t ?sc ?_); case sc => exact sideB))
  refine hasI_call (by omega) ?_
  repeat ((conv => whnf); first | with_reducible refine O_step ?_ | with_reducible refine S_step ?_ | with_reducible refine D_step ?_ | with_reducible refine RO.exit ?_ | with_reducible refine RO.ret ?_ | ((with_reducible refine And.intro ?sc ?_); case sc => exact side) | ((with_reducible refine br_f ?sc ?_); case sc => exact sideB) | ((with_reducible refine br_t ?sc ?_); case sc => exact sideB))
  refine And.intro (fun b4 => ?_) (fun b4 => ?_)
  · have e := bad (by unfold lenB; rw [b4]; simp)
    repeat ((conv => whnf); first | with_reducible refine O_step ?_ | with_reducible refine S_step ?_ | with_reducible refine D_step ?_ | with_reducible refine RO.exit ?_ | with_reducible refine RO.ret ?_ | ((with_reducible refine And.intro ?sc ?_); case sc => exact side) | ((with_reducible refine br_f ?sc ?_); case sc => exact sideB) | ((with_reducible refine br_t ?sc ?_); case sc => exact sideB))
    refine ⟨_, _, Vw.canon (x := .ints .u8 [] 0) ⟨rfl, rfl⟩ (cnL_cons (cnV_tup (cnL_cons (by simp only [cnV]; exact .inr rfl) (cnL_cons (cnV_refl _ _) (cnL_nil _)))) (cnL_nil _)), [.sha 0, .own 1], .tup [.sl 1 0 0 0 0, .int .i64 1], [.one false 0 (.ints .i64 fr c), .one true 0 (.ints .u8 [] 0)], ⟨⟨⟨rfl, _, rfl, rfl⟩, ⟨rfl, rfl⟩, trivial⟩, rfl, ⟨trivial, trivial, trivial⟩, rfl, ?_⟩, ?_⟩
    · intro i hi
      match i, hi with
      | 0, _ => exact .inr rfl
    · rw [e]
      exact ⟨0, 0, rfl, rfl, Nat.le_refl _⟩
  have hlb : lenB fr limit = false := by
    unfold lenB
    rw [b1, b2, b4, show decide (320 < fr.length) = false by rw [decide_eq_false_iff_not]; omega]; rfl
  repeat ((conv => whnf); first | with_reducible refine O_step ?_ | with_reducible refine S_step ?_ | with_reducible refine D_step ?_ | with_reducible refine RO.exit ?_ | with_reducible refine RO.ret ?_ | ((with_reducible refine And.intro ?sc ?_); case sc => exact side))
  refine WO.gov (σ := Nat × Nat × Nat × List Int) (fun (i, g, cc, ys) => i ≤ fr.length ∧ ys.length ≤ cc ∧ ys = (upto fr i).map Int.ofNat) (fun (i, _, _, _) => fr.length - i)
    (fun (i, g, cc, ys) => [(0, .sl 0 0 0 fr.length c0), (1, .int .i64 limit), (6, .sl 1 0 0 fr.length fr.length), (7, .sl 2 g 0 ys.length cc), (38, .sl 0 0 0 fr.length c0), (39, .int .i64 fr.length), (40, .int .i64 (i : Int))])
    (fun (i, g, cc, ys) => [.one false 0 (.ints .i64 fr c), .one true 0 (.ints .u8 (List.replicate fr.length 0) fr.length), .one true g (.ints .i64 ys cc)]) (0, 0, 0, []) tb_ok mixed (by kernel_rfl)
    [(0, .sl 0 0 0 fr.length c0), (1, .int .i64 limit), (6, .sl 1 0 0 fr.length fr.length), (7, .ns), (38, .sl 0 0 0 fr.length c0), (39, .int .i64 fr.length), (40, .int .i64 0)] _ ⟨Nat.zero_le _, Nat.zero_le _, rfl⟩ (And.intro rfl (And.intro rfl (And.intro rfl (And.intro rfl (And.intro rfl (And.intro rfl (And.intro rfl (trivial)))))))) rfl (Vw.nils (x := .ints .i64 [] 0) ⟨rfl, rfl⟩ ?_) (And.intro rfl (And.intro rfl (And.intro rfl (trivial)))) (fun _ => rfl) (fun _ => rfl) (fun _ => ⟨trivial, trivial, trivial, trivial⟩) ?_
  · exact And.intro (.inl rfl) (And.intro (.inl rfl) (And.intro (.inl rfl) (And.intro (.inr ⟨rfl, rfl⟩) (And.intro (.inl rfl) (And.intro (.inl rfl) (And.intro (.inl rfl) trivial))))))
  rintro ⟨i, g, cc, ys⟩ ⟨h1, h2, h3⟩ d
  have hyl : ys.length ≤ i := by rw [h3, List.length_map]; exact upto_len fr i
  repeat ((conv => whnf); first | with_reducible refine O_step ?_ | with_reducible refine S_step ?_ | with_reducible refine D_step ?_ | with_reducible refine RO.exit ?_ | with_reducible refine RO.ret ?_ | ((with_reducible refine And.intro ?sc ?_); case sc => exact side))
  refine And.intro (fun hc => ?_) (fun hc => ?_)
  · simp only [decide_eq_true_eq] at hc
    repeat ((conv => whnf); first | with_reducible refine O_step ?_ | with_reducible refine S_step ?_ | with_reducible refine D_step ?_ | with_reducible refine RO.exit ?_ | with_reducible refine RO.ret ?_ | ((with_reducible refine And.intro ?sc ?_); case sc => exact side))
    refine And.intro (fun hb => ?_) (fun hb => ?_)
    · have hb' : 0 < fr.getD i 0 := by simpa using hb
      repeat ((conv => whnf); first | with_reducible refine O_step ?_ | with_reducible refine S_step ?_ | with_reducible refine D_step ?_ | with_reducible refine RO.exit ?_ | with_reducible refine RO.ret ?_ | ((with_reducible refine And.intro ?sc ?_); case sc => exact side))
      intro zs hzs
      obtain rfl : zs = [(i : Int)] := by rw [hzs]; rfl
      repeat ((conv => whnf); first | with_reducible refine O_step ?_ | with_reducible refine S_step ?_ | with_reducible refine D_step ?_ | with_reducible refine RO.exit ?_ | with_reducible refine RO.ret ?_ | ((with_reducible refine And.intro ?sc ?_); case sc => exact side))
      intro c1 hc1
      repeat ((conv => whnf); first | with_reducible refine O_step ?_ | with_reducible refine S_step ?_ | with_reducible refine D_step ?_ | with_reducible refine RO.exit ?_ | with_reducible refine RO.ret ?_ | ((with_reducible refine And.intro ?sc ?_); case sc => exact side))
      refine RO.same (i + 1, g + 1, c1, ys ++ [(i : Int)]) ⟨by omega, by simpa using hc1, by rw [upto_succ, if_pos hb', h3]; simp⟩ (show fr.length - (i + 1) < fr.length - i by omega) (And.intro rfl (And.intro rfl (And.intro rfl (And.intro ?_ (And.intro rfl (And.intro rfl (And.intro rfl trivial))))))) (And.intro rfl (And.intro rfl (And.intro rfl (trivial))))
      show AV.sl 2 (g + 1) 0 (ys.length + 1) c1 = AV.sl 2 (g + 1) 0 (ys ++ [(i : Int)]).length c1
      rw [List.length_append]; rfl
    · have hb' : ¬ 0 < fr.getD i 0 := by simpa using hb
      repeat ((conv => whnf); first | with_reducible refine O_step ?_ | with_reducible refine S_step ?_ | with_reducible refine D_step ?_ | with_reducible refine RO.exit ?_ | with_reducible refine RO.ret ?_ | ((with_reducible refine And.intro ?sc ?_); case sc => exact side))
      refine RO.same (i + 1, g, cc, ys) ⟨by omega, h2, by rw [upto_succ, if_neg hb']; exact h3⟩ (show fr.length - (i + 1) < fr.length - i by omega) (And.intro rfl (And.intro rfl (And.intro rfl (And.intro rfl (And.intro rfl (And.intro rfl (And.intro rfl (trivial)))))))) (And.intro rfl (And.intro rfl (And.intro rfl (trivial))))
  · simp only [decide_eq_false_iff_not] at hc
    obtain rfl : i = fr.length := by omega
    have hu : ys = (usedF fr).map Int.ofNat := h3
    have hul := usedF_len fr
    have hyn : ys.length = (usedF fr).length := by rw [hu, List.length_map]
    clear h3
    obtain ⟨K, rfl⟩ : ∃ K : Nat, limit = (K : Int) := ⟨limit.toNat, by omega⟩
    have hsh : shlF .i64 1 (K : Int) = ((2 ^ K : Nat) : Int) := shl_small K (by omega)
    have hgo : lengthsF fr (K : Int) = if 2 ^ K < (usedF fr).length then ([], 60) else (hlenF fr K, 0) := by
      unfold lengthsF; rw [hlb]; simp
    repeat ((conv => whnf); first | with_reducible refine O_step ?_ | with_reducible refine S_step ?_ | with_reducible refine D_step ?_ | with_reducible refine RO.exit ?_ | with_reducible refine RO.ret ?_ | ((with_reducible refine And.intro ?sc ?_); case sc => exact side) | ((with_reducible refine br_f ?sc ?_); case sc => exact sideB) | ((with_reducible refine br_t ?sc ?_); case sc => exact sideB))
    refine And.intro (fun b5 => ?_) (fun b5 => ?_)
    · have b5' : shlF .i64 1 (K : Int) < ys.length := by simpa using b5
      have e : lengthsF fr (K : Int) = ([], 60) := by rw [hgo, if_pos (by omega)]
      repeat ((conv => whnf); first | with_reducible refine O_step ?_ | with_reducible refine S_step ?_ | with_reducible refine D_step ?_ | with_reducible refine RO.exit ?_ | with_reducible refine RO.ret ?_ | ((with_reducible refine And.intro ?sc ?_); case sc => exact side) | ((with_reducible refine br_f ?sc ?_); case sc => exact sideB) | ((with_reducible refine br_t ?sc ?_); case sc => exact sideB))
      refine ⟨_, _, Vw.canon (x := .ints .u8 [] 0) ⟨rfl, rfl⟩ (cnL_cons (cnV_tup (cnL_cons (by simp only [cnV]; exact .inr rfl) (cnL_cons (cnV_refl _ _) (cnL_nil _)))) (cnL_nil _)), [.sha 0, .own 3], .tup [.sl 1 0 0 0 0, .int .i64 60], [.one false 0 (.ints .i64 fr c), .one true 0 (.ints .u8 [] 0)], ⟨⟨⟨rfl, _, rfl, rfl⟩, ⟨rfl, rfl⟩, trivial⟩, rfl, ⟨trivial, trivial, trivial⟩, rfl, ?_⟩, ?_⟩
      · intro i hi
        match i, hi with
        | 0, _ => exact .inr rfl
      · rw [e]
        exact ⟨0, 0, rfl, rfl, Nat.le_refl _⟩
    have b5' : ¬ shlF .i64 1 (K : Int) < ys.length := by simpa using b5
    have hgo' : lengthsF fr (K : Int) = (hlenF fr K, 0) := by rw [hgo, if_neg (by omega)]
    repeat ((conv => whnf); first | with_reducible refine O_step ?_ | with_reducible refine S_step ?_ | with_reducible refine D_step ?_ | with_reducible refine RO.exit ?_ | with_reducible refine RO.ret ?_ | ((with_reducible refine And.intro ?sc ?_); case sc => exact side) | ((with_reducible refine br_f ?sc ?_); case sc => exact sideB) | ((with_reducible refine br_t ?sc ?_); case sc => exact sideB))
    have hyk : ∀ k, k < ys.length → ys.getD k 0 = ((usedF fr).getD k 0 : Int) ∧ (usedF fr).getD k 0 < fr.length := by
      intro k hk
      have hk' : k < (usedF fr).length := by omega
      refine ⟨?_, (usedF_mem (getD_memN hk')).1⟩
      rw [hu]; simp [List.getD_eq_getElem?_getD, hk']
    have hres : ∀ OUT : List Int, hlenF fr K = OUT → ∃ g' c', AV.tup [.sl 1 0 0 fr.length fr.length, .int .i64 0] = .tup [.sl 1 g' 0 (lengthsF fr (K : Int)).1.length c', .int .i64 (lengthsF fr (K : Int)).2] ∧ [AO.one false 0 (.ints .i64 fr c), AO.one true 0 (.ints .u8 OUT fr.length)] = [.one false 0 (.ints .i64 fr c), .one true g' (.ints .u8 (lengthsF fr (K : Int)).1 c')] ∧ (lengthsF fr (K : Int)).1.length ≤ c' := by
      rintro _ rfl
      rw [hgo']
      exact ⟨0, fr.length, by simp only [lenF_len], rfl, by simp only [lenF_len]; exact Nat.le_refl _⟩
    refine And.intro (fun b6 => ?_) (fun b6 => ?_)
    · have b6' : (ys.length : Int) = 1 := by simpa using b6
      have hk0 := hyk 0 (by omega)
      have hin : 0 ≤ ys.getD (Int.toNat 0 + 0) 0 ∧ ys.getD (Int.toNat 0 + 0) 0 < fr.length := by
        show 0 ≤ ys.getD 0 0 ∧ ys.getD 0 0 < fr.length
        omega
      have hrl : (List.replicate fr.length (0 : Int)).length = fr.length := by simp
      repeat ((conv => whnf); first | with_reducible refine O_step ?_ | with_reducible refine S_step ?_ | with_reducible refine D_step ?_ | with_reducible refine RO.exit ?_ | with_reducible refine RO.ret ?_ | ((with_reducible refine And.intro ?sc ?_); case sc => exact side) | ((with_reducible refine br_f ?sc ?_); case sc => exact sideB) | ((with_reducible refine br_t ?sc ?_); case sc => exact sideB))
      refine ⟨_, _, Vw.refl _ _, [.sha 0, .own 1], .tup [.sl 1 0 0 fr.length fr.length, .int .i64 0], [.one false 0 (.ints .i64 fr c), .one true 0 (.ints .u8 ((List.replicate fr.length (0 : Int)).set ((ys.getD (Int.toNat 0 + 0) 0).toNat + 0) 1) fr.length)], ⟨⟨⟨rfl, _, rfl, rfl⟩, ⟨rfl, rfl⟩, trivial⟩, rfl, ⟨trivial, trivial, trivial⟩, rfl, ?_⟩, hres _ ?_⟩
      · intro i hi
        match i, hi with
        | 0, _ => exact .inr rfl
      rw [lenF_one K (by omega)]
      show _ = (List.replicate fr.length 0).set ((ys.getD 0 0).toNat + 0) 1
      rw [hk0.1, Int.toNat_natCast, Nat.add_zero]
    have b6' : ¬ (ys.length : Int) = 1 := by simpa using b6
    repeat ((conv => whnf); first | with_reducible refine O_step ?_ | with_reducible refine S_step ?_ | with_reducible refine D_step ?_ | with_reducible refine RO.exit ?_ | with_reducible refine RO.ret ?_ | ((with_reducible refine And.intro ?sc ?_); case sc => exact side) | ((with_reducible refine br_f ?sc ?_); case sc => exact sideB) | ((with_reducible refine br_t ?sc ?_); case sc => exact sideB))
    refine And.intro (fun b7 => ?_) (fun b7 => ?_)
    · have b7' : (ys.length : Int) = 0 := by simpa using b7
      repeat ((conv => whnf); first | with_reducible refine O_step ?_ | with_reducible refine S_step ?_ | with_reducible refine D_step ?_ | with_reducible refine RO.exit ?_ | with_reducible refine RO.ret ?_ | ((with_reducible refine And.intro ?sc ?_); case sc => exact side) | ((with_reducible refine br_f ?sc ?_); case sc => exact sideB) | ((with_reducible refine br_t ?sc ?_); case sc => exact sideB))
      refine ⟨_, _, Vw.refl _ _, [.sha 0, .own 1], .tup [.sl 1 0 0 fr.length fr.length, .int .i64 0], [.one false 0 (.ints .i64 fr c), .one true 0 (.ints .u8 (List.replicate fr.length (0 : Int)) fr.length)], ⟨⟨⟨rfl, _, rfl, rfl⟩, ⟨rfl, rfl⟩, trivial⟩, rfl, ⟨trivial, trivial, trivial⟩, rfl, ?_⟩, hres _ ?_⟩
      · intro i hi
        match i, hi with
        | 0, _ => exact .inr rfl
      exact lenF_zero K (by omega)
    have b7' : ¬ (ys.length : Int) = 0 := by simpa using b7
    have hn : (usedF fr).length = ys.length := hyn.symm
    have hlv : (lvF fr).length = ys.length := by rw [lvF_len, hn]
    have hU0 : ys.length ≤ 320 := by omega
    repeat ((conv => whnf); first | with_reducible refine O_step ?_ | with_reducible refine S_step ?_ | with_reducible refine D_step ?_ | with_reducible refine RO.exit ?_ | with_reducible refine RO.ret ?_ | ((with_reducible refine And.intro ?sc ?_); case sc => exact side))
    refine WO.gov (σ := Nat × Nat × Nat) (fun (k, gL, cL) => k ≤ ys.length ∧ ((lvF fr).take k).length ≤ cL) (fun (k, _, _) => ys.length - k)
      (fun (k, gL, cL) => [(0, .sl 0 0 0 fr.length c0), (1, .int .i64 K), (6, .sl 1 0 0 fr.length fr.length), (7, .sl 2 g 0 ys.length cc), (11, .sl 4 gL 0 ((lvF fr).take k).length cL), (12, .ns), (72, .sl 2 g 0 ys.length cc), (73, .int .i64 ys.length), (74, .int .i64 (k : Int))])
      (fun (k, gL, cL) => [.one false 0 (.ints .i64 fr c), .one true 0 (.ints .u8 (List.replicate fr.length 0) fr.length), .one true g (.ints .i64 ys cc), .fam false k (uF (unitV ys.length) (fun _ => ys.length)), aO 3 ys.length (fun _ => ys.length) gL cL ((lvF fr).take k)]) (0, 0, 0) tb_ok mixed (by kernel_rfl)
      [(0, .sl 0 0 0 fr.length c0), (1, .int .i64 K), (6, .sl 1 0 0 fr.length fr.length), (7, .sl 2 g 0 ys.length cc), (11, .ns), (12, .ns), (72, .sl 2 g 0 ys.length cc), (73, .int .i64 ys.length), (74, .int .i64 0)] _ ⟨Nat.zero_le _, Nat.zero_le _⟩ (And.intro rfl (And.intro rfl (And.intro rfl (And.intro rfl (And.intro rfl (And.intro rfl (And.intro rfl (And.intro rfl (And.intro rfl (trivial)))))))))) rfl
      (Vw.trans (Vw.fam0 (own := false) (f := uF (unitV ys.length) (fun _ => ys.length))) (Vw.nils (x := .tab 3 ((lvF fr).take 0).length (gU 3 ys.length (fun _ => ys.length) ((lvF fr).take 0)) 0) ⟨rfl, rfl⟩ ?_)) (And.intro rfl (And.intro rfl (And.intro rfl (And.intro rfl (And.intro rfl (trivial)))))) (fun _ => rfl) (fun _ => rfl) (fun _ => ⟨trivial, trivial, trivial, fun _ => trivial, fun _ => rfl, trivial⟩) ?_
    · exact And.intro (.inl rfl) (And.intro (.inl rfl) (And.intro (.inl rfl) (And.intro (.inl rfl) (And.intro (.inr ⟨rfl, rfl⟩) (And.intro (.inl rfl) (And.intro (.inl rfl) (And.intro (.inl rfl) (And.intro (.inl rfl) trivial))))))))
    rintro ⟨k, gL, cL⟩ ⟨k1, k2⟩ d
    have htk : ((lvF fr).take k).length = k := by rw [List.length_take]; omega
    repeat ((conv => whnf); first | with_reducible refine O_step ?_ | with_reducible refine S_step ?_ | with_reducible refine D_step ?_ | with_reducible refine RO.exit ?_ | with_reducible refine RO.ret ?_ | ((with_reducible refine And.intro ?sc ?_); case sc => exact side))
    refine And.intro (fun hc => ?_) (fun hc => ?_)
    · simp only [decide_eq_true_eq] at hc
      obtain ⟨y1, y2⟩ := hyk k (by omega)
      have y3 : ys.getD ((k : Int).toNat + 0) 0 = ((usedF fr).getD k 0 : Int) := by rw [Int.toNat_natCast, Nat.add_zero]; exact y1
      have y4 : 0 ≤ ys.getD ((k : Int).toNat + 0) 0 ∧ ys.getD ((k : Int).toNat + 0) 0 < fr.length := by omega
      repeat ((conv => whnf); first | with_reducible refine O_step ?_ | with_reducible refine S_step ?_ | with_reducible refine D_step ?_ | with_reducible refine RO.exit ?_ | with_reducible refine RO.ret ?_ | ((with_reducible refine And.intro ?sc ?_); case sc => exact side))
      refine And.intro ?_ ?_
      · repeat ((conv => whnf); first | with_reducible refine O_step ?_ | with_reducible refine S_step ?_ | with_reducible refine D_step ?_ | with_reducible refine RO.exit ?_ | with_reducible refine RO.ret ?_ | ((with_reducible refine And.intro ?sc ?_); case sc => exact side))
        refine And.intro (fun q hq => ?_) ?_
        · match q, hq with
          | 0, _ => exact ⟨rfl, rfl⟩
        refine And.intro ⟨by show ((lvF fr).take k).length + 1 ≤ _; omega, by show (((lvF fr).take k).length + 1) * 40 ≤ _; omega⟩ ?_
        refine Exists.intro (fun q => if q < k then gU 3 ys.length (fun _ => ys.length) ((lvF fr).take k) q else [.int .i64 (fr.getD ((ys.getD ((k : Int).toNat + 0) 0).toNat + 0) 0), .int .i64 0, .sl 5 0 0 (ys.length : Int).toNat (ys.length : Int).toNat]) (And.intro (fun q hq => ?_) (fun c1 hc1 => ?_))
        · by_cases hql : q < ((lvF fr).take k).length
          · rw [if_pos hql]
            show (if q < k then _ else _) = _
            rw [if_pos (by omega)]
          · have hq' : q < ((lvF fr).take k).length + 1 := hq
            have hq2 : q - ((lvF fr).take k).length = 0 := by omega
            rw [if_neg hql, hq2]
            show (if q < k then _ else _) = _
            rw [if_neg (by omega)]
            rfl
        have hc1' : ((lvF fr).take k).length + 1 ≤ c1 := hc1
        have el : ((lvF fr).take (k + 1)).length = ((lvF fr).take k).length + 1 := by rw [List.length_take, List.length_take]; omega
        repeat ((conv => whnf); first | with_reducible refine O_step ?_ | with_reducible refine S_step ?_ | with_reducible refine D_step ?_ | with_reducible refine RO.exit ?_ | with_reducible refine RO.ret ?_ | ((with_reducible refine And.intro ?sc ?_); case sc => exact side))
        refine RO.mk (k + 1, gL + 1, c1) [(0, .sl 0 0 0 fr.length c0), (1, .int .i64 K), (6, .sl 1 0 0 fr.length fr.length), (7, .sl 2 g 0 ys.length cc), (11, .sl 4 (gL + 1) 0 (((lvF fr).take k).length + 1) c1), (12, .ns), (72, .sl 2 g 0 ys.length cc), (73, .int .i64 ys.length), (74, .int .i64 ((k : Int) + 1))] _ ⟨by omega, by rw [el]; exact hc1'⟩ (show ys.length - (k + 1) < ys.length - k by omega) (And.intro rfl (And.intro rfl (And.intro rfl (And.intro rfl (And.intro rfl (And.intro rfl (And.intro rfl (And.intro rfl (And.intro rfl (trivial)))))))))) rfl
          (Vw.freeze (iu := 3) (k := 5) (o := 4) (uF (unitV ys.length) (fun _ => ys.length)) (gU 3 ys.length (fun _ => ys.length) ((lvF fr).take (k + 1))) rfl rfl rfl rfl (fun _ _ => rfl) rfl ?_ ?_) ?_
        · intro r hr
          have hr' : r < ((lvF fr).take k).length + 1 := hr
          show AV.rml _ (cellU 3 ys.length _ (((lvF fr).take (k + 1)).getD r default)) = (if r < k then _ else _)
          by_cases hrl : r < k
          · rw [if_pos hrl]
            have e1 : ((lvF fr).take (k + 1)).getD r default = (lvF fr).getD r default := by simp only [List.getD_eq_getElem?_getD, List.getElem?_take, if_pos (show r < k + 1 by omega)]
            have e2 : ((lvF fr).take k).getD r default = (lvF fr).getD r default := by simp only [List.getD_eq_getElem?_getD, List.getElem?_take, if_pos hrl]
            show _ = [AV.int .i64 (((lvF fr).take k).getD r default).w, AV.int .i64 (((lvF fr).take k).getD r default).k, AV.sl 3 (((lvF fr).take k).getD r default).u 0 ys.length ys.length]
            rw [e1, e2, lvF_get (by omega)]
            simp only [AV.rml, AV.rm, phi1_ne (show ¬ (3 = 3 ∧ r = k) by omega)]
          · have hrk : r = k := by omega
            subst hrk
            have e1 : ((lvF fr).take (r + 1)).getD r default = (lvF fr).getD r default := by simp only [List.getD_eq_getElem?_getD, List.getElem?_take, if_pos (show r < r + 1 by omega)]
            rw [if_neg hrl, e1, lvF_get (by omega), y3]
            simp only [AV.rml, AV.rm, phi1_eq, Int.toNat_natCast, Nat.add_zero]
        · show AV.rml _ [AV.sl 0 0 0 fr.length c0, .int .i64 K, .sl 1 0 0 fr.length fr.length, .sl 2 g 0 ys.length cc, .sl 4 (gL + 1) 0 ((lvF fr).take (k + 1)).length c1, .ns, .sl 2 g 0 ys.length cc, .int .i64 ys.length, .int .i64 ((k : Int) + 1)] = [AV.sl 0 0 0 fr.length c0, .int .i64 K, .sl 1 0 0 fr.length fr.length, .sl 2 g 0 ys.length cc, .sl 4 (gL + 1) 0 (((lvF fr).take k).length + 1) c1, .ns, .sl 2 g 0 ys.length cc, .int .i64 ys.length, .int .i64 ((k : Int) + 1)]
          rw [el]
          rfl
        · refine And.intro rfl (And.intro rfl (And.intro rfl (And.intro rfl (And.intro ?_ trivial))))
          show aO 3 ys.length _ (gL + 1) c1 ((lvF fr).take (k + 1)) = AO.one true (gL + 1) (.tab 3 (((lvF fr).take k).length + 1) _ c1)
          unfold aO
          rw [el]
      · repeat ((conv => whnf); first | with_reducible refine O_step ?_ | with_reducible refine S_step ?_ | with_reducible refine D_step ?_ | with_reducible refine RO.exit ?_ | with_reducible refine RO.ret ?_ | ((with_reducible refine And.intro ?sc ?_); case sc => exact side))
        refine And.intro (fun q hq => ?_) ?_
        · match q, hq with
          | 0, _ => exact ⟨rfl, rfl⟩
        refine And.intro ⟨by show ((lvF fr).take k).length + 1 ≤ _; omega, by show (((lvF fr).take k).length + 1) * 40 ≤ _; omega⟩ ?_
        refine Exists.intro (fun q => if q < k then gU 3 ys.length (fun _ => ys.length) ((lvF fr).take k) q else [.int .i64 (fr.getD ((ys.getD ((k : Int).toNat + 0) 0).toNat + 0) 0), .int .i64 0, .sl 6 0 0 (ys.length : Int).toNat (ys.length : Int).toNat]) (And.intro (fun q hq => ?_) (fun c1 hc1 => ?_))
        · by_cases hql : q < ((lvF fr).take k).length
          · rw [if_pos hql]
            show (if q < k then _ else _) = _
            rw [if_pos (by omega)]
          · have hq' : q < ((lvF fr).take k).length + 1 := hq
            have hq2 : q - ((lvF fr).take k).length = 0 := by omega
            rw [if_neg hql, hq2]
            show (if q < k then _ else _) = _
            rw [if_neg (by omega)]
            rfl
        have hc1' : ((lvF fr).take k).length + 1 ≤ c1 := hc1
        have el : ((lvF fr).take (k + 1)).length = ((lvF fr).take k).length + 1 := by rw [List.length_take, List.length_take]; omega
        repeat ((conv => whnf); first | with_reducible refine O_step ?_ | with_reducible refine S_step ?_ | with_reducible refine D_step ?_ | with_reducible refine RO.exit ?_ | with_reducible refine RO.ret ?_ | ((with_reducible refine And.intro ?sc ?_); case sc => exact side))
        refine RO.mk (k + 1, gL + 1, c1) [(0, .sl 0 0 0 fr.length c0), (1, .int .i64 K), (6, .sl 1 0 0 fr.length fr.length), (7, .sl 2 g 0 ys.length cc), (11, .sl 4 (gL + 1) 0 (((lvF fr).take k).length + 1) c1), (12, .ns), (72, .sl 2 g 0 ys.length cc), (73, .int .i64 ys.length), (74, .int .i64 ((k : Int) + 1))] _ ⟨by omega, by rw [el]; exact hc1'⟩ (show ys.length - (k + 1) < ys.length - k by omega) (And.intro rfl (And.intro rfl (And.intro rfl (And.intro rfl (And.intro rfl (And.intro rfl (And.intro rfl (And.intro rfl (And.intro rfl (trivial)))))))))) rfl
          (Vw.freeze (iu := 3) (k := 6) (o := 4) (uF (unitV ys.length) (fun _ => ys.length)) (gU 3 ys.length (fun _ => ys.length) ((lvF fr).take (k + 1))) rfl rfl rfl rfl (fun _ _ => rfl) rfl ?_ ?_) ?_
        · intro r hr
          have hr' : r < ((lvF fr).take k).length + 1 := hr
          show AV.rml _ (cellU 3 ys.length _ (((lvF fr).take (k + 1)).getD r default)) = (if r < k then _ else _)
          by_cases hrl : r < k
          · rw [if_pos hrl]
            have e1 : ((lvF fr).take (k + 1)).getD r default = (lvF fr).getD r default := by simp only [List.getD_eq_getElem?_getD, List.getElem?_take, if_pos (show r < k + 1 by omega)]
            have e2 : ((lvF fr).take k).getD r default = (lvF fr).getD r default := by simp only [List.getD_eq_getElem?_getD, List.getElem?_take, if_pos hrl]
            show _ = [AV.int .i64 (((lvF fr).take k).getD r default).w, AV.int .i64 (((lvF fr).take k).getD r default).k, AV.sl 3 (((lvF fr).take k).getD r default).u 0 ys.length ys.length]
            rw [e1, e2, lvF_get (by omega)]
            simp only [AV.rml, AV.rm, phi1_ne (show ¬ (3 = 3 ∧ r = k) by omega)]
          · have hrk : r = k := by omega
            subst hrk
            have e1 : ((lvF fr).take (r + 1)).getD r default = (lvF fr).getD r default := by simp only [List.getD_eq_getElem?_getD, List.getElem?_take, if_pos (show r < r + 1 by omega)]
            rw [if_neg hrl, e1, lvF_get (by omega), y3]
            simp only [AV.rml, AV.rm, phi1_eq, Int.toNat_natCast, Nat.add_zero]
        · show AV.rml _ [AV.sl 0 0 0 fr.length c0, .int .i64 K, .sl 1 0 0 fr.length fr.length, .sl 2 g 0 ys.length cc, .sl 4 (gL + 1) 0 ((lvF fr).take (k + 1)).length c1, .ns, .sl 2 g 0 ys.length cc, .int .i64 ys.length, .int .i64 ((k : Int) + 1)] = [AV.sl 0 0 0 fr.length c0, .int .i64 K, .sl 1 0 0 fr.length fr.length, .sl 2 g 0 ys.length cc, .sl 4 (gL + 1) 0 (((lvF fr).take k).length + 1) c1, .ns, .sl 2 g 0 ys.length cc, .int .i64 ys.length, .int .i64 ((k : Int) + 1)]
          rw [el]
          rfl
        · refine And.intro rfl (And.intro rfl (And.intro rfl (And.intro rfl (And.intro ?_ trivial))))
          show aO 3 ys.length _ (gL + 1) c1 ((lvF fr).take (k + 1)) = AO.one true (gL + 1) (.tab 3 (((lvF fr).take k).length + 1) _ c1)
          unfold aO
          rw [el]
    · simp only [decide_eq_false_iff_not] at hc
      have hkn : k = ys.length := by omega
      have htl : (lvF fr).take k = lvF fr := List.take_of_length_le (by omega)
      rw [htl] at k2 htk
      subst hkn
      repeat ((conv => whnf); first | with_reducible refine O_step ?_ | with_reducible refine S_step ?_ | with_reducible refine D_step ?_ | with_reducible refine RO.exit ?_ | with_reducible refine RO.ret ?_ | ((with_reducible refine And.intro ?sc ?_); case sc => exact side))
      refine WO.gov (σ := Nat × Nat × Nat × (Nat → Nat)) (fun (k, gA, cA, cu) => k ≤ K ∧ (rowsF fr k).all.length ≤ cA ∧ ∀ r, r < ys.length → cu r = ys.length) (fun (k, _, _, _) => K - k)
        (fun (k, gA, cA, cu) => [(6, .sl 1 0 0 fr.length fr.length), (7, .sl 2 g 0 ys.length cc), (11, .sl 4 gL 0 (lvF fr).length cL), (12, .sl 5 gA 0 (rowsF fr k).all.length cA), (96, .int .i64 K), (97, .int .i64 (k : Int))])
        (fun (k, gA, cA, cu) => [.one false 0 (.ints .i64 fr c), .one true 0 (.ints .u8 (List.replicate fr.length 0) fr.length), .one true g (.ints .i64 ys cc), .fam false (rowsF fr k).m (uF (rowsF fr k).us cu), aO 3 ys.length (fun _ => ys.length) gL cL (lvF fr), aO 3 ys.length cu gA cA (rowsF fr k).all]) (0, 0, 0, fun _ => ys.length) tb_ok mixed (by kernel_rfl)
        [(6, .sl 1 0 0 fr.length fr.length), (7, .sl 2 g 0 ys.length cc), (11, .sl 4 gL 0 ((lvF fr).take ys.length).length cL), (12, .ns), (96, .int .i64 K), (97, .int .i64 0)] _ ⟨Nat.zero_le _, Nat.zero_le _, fun _ _ => rfl⟩ (And.intro rfl (And.intro rfl (And.intro rfl (And.intro rfl (And.intro rfl (And.intro rfl (trivial))))))) rfl
        (Vw.nils (x := .tab 3 (rowsF fr 0).all.length (gU 3 ys.length (fun _ => ys.length) (rowsF fr 0).all) 0) ⟨rfl, rfl⟩ ?_) (And.intro rfl (And.intro rfl (And.intro rfl (And.intro ?_ (And.intro ?_ (And.intro rfl trivial)))))) (fun _ => rfl) (fun _ => rfl) (fun _ => ⟨trivial, trivial, trivial, fun _ => trivial, fun _ => rfl, fun _ => rfl, trivial⟩) ?_
      · exact And.intro (.inl rfl) (And.intro (.inl rfl) (And.intro (.inl (by show AV.sl 4 gL 0 (lvF fr).length cL = AV.sl 4 gL 0 ((lvF fr).take ys.length).length cL; rw [htl])) (And.intro (.inr ⟨rfl, rfl⟩) (And.intro (.inl rfl) (And.intro (.inl rfl) trivial)))))
      · show AO.fam false (usedF fr).length (uF (unitV (usedF fr).length) (fun _ => ys.length)) = AO.fam false ys.length (uF (unitV ys.length) (fun _ => ys.length))
        rw [hn]
      · show aO 3 ys.length (fun _ => ys.length) gL cL (lvF fr) = aO 3 ys.length (fun _ => ys.length) gL cL ((lvF fr).take ys.length)
        rw [htl]
      rintro ⟨k, gA, cA, cu⟩ ⟨r1, r2, r3⟩ d
      repeat ((conv => whnf); first | with_reducible refine O_step ?_ | with_reducible refine S_step ?_ | with_reducible refine D_step ?_ | with_reducible refine RO.exit ?_ | with_reducible refine RO.ret ?_ | ((with_reducible refine And.intro ?sc ?_); case sc => exact side))
      refine And.intro (fun hc => ?_) (fun hc => ?_)
      · simp only [decide_eq_true_eq] at hc
        have hok := rowsF_ok b4 (by omega) k (by omega)
        rw [hn] at hok
        have hm0 := rowsF_m fr k
        rw [hn] at hm0
        have hrl := rowsF_len_le fr k
        have hol := outI_len (pairsF (rowsF fr k).all)
        have hpl := pairsF_len (rowsF fr k).all
        repeat ((conv => whnf); first | with_reducible refine O_step ?_ | with_reducible refine S_step ?_ | with_reducible refine D_step ?_ | with_reducible refine RO.exit ?_ | with_reducible refine RO.ret ?_ | ((with_reducible refine And.intro ?sc ?_); case sc => exact side))
        refine pairs_at (a := 5) (u := 3) hok rfl rfl rfl fun g' c' cv hp => ?_
        have hp' : (outI (pairsF (rowsF fr k).all)).length ≤ c' := by omega
        repeat ((conv => whnf); first | with_reducible refine O_step ?_ | with_reducible refine S_step ?_ | with_reducible refine D_step ?_ | with_reducible refine RO.exit ?_ | with_reducible refine RO.ret ?_ | ((with_reducible refine And.intro ?sc ?_); case sc => exact side))
        refine And.intro (fun q _ => ⟨rfl, rfl⟩) ?_
        refine And.intro ⟨by show (pairsF (rowsF fr k).all).length + (lvF fr).length ≤ _; omega, by show ((pairsF (rowsF fr k).all).length + (lvF fr).length) * 40 ≤ _; omega⟩ ?_
        refine Exists.intro (fun q => if q < (pairsF (rowsF fr k).all).length then gU 6 ys.length cv (outI (pairsF (rowsF fr k).all)) q else gU 3 ys.length (fun _ => ys.length) (lvF fr) (q - (pairsF (rowsF fr k).all).length)) (And.intro (fun q hq => rfl) (fun c1 hc1 => ?_))
        have hc1' : (pairsF (rowsF fr k).all).length + (lvF fr).length ≤ c1 := hc1
        have hnl : (rowsF fr (k + 1)).all.length = (pairsF (rowsF fr k).all).length + (lvF fr).length := by simp only [rowsF, Row.next, List.length_append, List.length_map, hol]
        repeat ((conv => whnf); first | with_reducible refine O_step ?_ | with_reducible refine S_step ?_ | with_reducible refine D_step ?_ | with_reducible refine RO.exit ?_ | with_reducible refine RO.ret ?_ | ((with_reducible refine And.intro ?sc ?_); case sc => exact side))
        refine RO.mk (k + 1, gA + 1, c1, (fun j => if j < (rowsF fr k).m then cu j else cv (j - (rowsF fr k).m))) [(6, .sl 1 0 0 fr.length fr.length), (7, .sl 2 g 0 ys.length cc), (11, .sl 4 gL 0 (lvF fr).length cL), (12, .sl 7 (g' + 1) 0 ((pairsF (rowsF fr k).all).length + (lvF fr).length) c1), (96, .int .i64 K), (97, .int .i64 ((k : Int) + 1))] _ ⟨by omega, by rw [hnl]; exact hc1', fun r hr => by show (if r < (rowsF fr k).m then cu r else cv (r - (rowsF fr k).m)) = _; rw [if_pos (by omega)]; exact r3 r hr⟩ (show K - (k + 1) < K - k by omega) (And.intro rfl (And.intro rfl (And.intro rfl (And.intro rfl (And.intro rfl (And.intro rfl (trivial))))))) rfl
          (Vw.trans (l' := [.sl 1 0 0 fr.length fr.length, .sl 2 g 0 ys.length cc, .sl 4 gL 0 (lvF fr).length cL, .sl 7 (g' + 1) 0 ((pairsF (rowsF fr k).all).length + (lvF fr).length) c1, .int .i64 K, .int .i64 ((k : Int) + 1)])
            (Vw.merge (iu := 3) (iv := 6) (o := 7) (uF (rowsF fr (k + 1)).us (fun j => if j < (rowsF fr k).m then cu j else cv (j - (rowsF fr k).m))) (gU 3 ys.length (fun j => if j < (rowsF fr k).m then cu j else cv (j - (rowsF fr k).m)) (rowsF fr (k + 1)).all) rfl rfl rfl rfl ?_ ?_ ?_ rfl) (Vw.move (i := 5) (k := 7) rfl rfl rfl ?_)) ?_
        · intro r hr
          show Cont.ints .i64 (if r < (rowsF fr k).m then _ else _) (if r < (rowsF fr k).m then _ else _) = Cont.ints .i64 _ _
          rw [if_pos hr, if_pos hr]
        · intro r hr
          show Cont.ints .i64 (if (rowsF fr k).m + r < (rowsF fr k).m then _ else _) (if (rowsF fr k).m + r < (rowsF fr k).m then _ else _) = Cont.ints .i64 _ _
          rw [if_neg (by omega), if_neg (by omega), Nat.add_sub_cancel_left]
        · intro r hr
          have hr' : r < (pairsF (rowsF fr k).all).length + (lvF fr).length := hr
          show AV.rml _ [AV.int .i64 ((rowsF fr (k + 1)).all.getD r default).w, AV.int .i64 ((rowsF fr (k + 1)).all.getD r default).k, AV.sl 3 ((rowsF fr (k + 1)).all.getD r default).u 0 ys.length (if ((rowsF fr (k + 1)).all.getD r default).u < (rowsF fr k).m then cu ((rowsF fr (k + 1)).all.getD r default).u else cv (((rowsF fr (k + 1)).all.getD r default).u - (rowsF fr k).m))] = (if r < (pairsF (rowsF fr k).all).length then _ else _)
          by_cases hrp : r < (pairsF (rowsF fr k).all).length
          · have e1 : (rowsF fr (k + 1)).all.getD r default = upI (rowsF fr k).m ((outI (pairsF (rowsF fr k).all)).getD r default) := next_lo hrp
            rw [if_pos hrp, e1]
            show _ = [AV.int .i64 ((outI (pairsF (rowsF fr k).all)).getD r default).w, AV.int .i64 ((outI (pairsF (rowsF fr k).all)).getD r default).k, AV.sl 6 ((outI (pairsF (rowsF fr k).all)).getD r default).u 0 ys.length (cv ((outI (pairsF (rowsF fr k).all)).getD r default).u)]
            simp only [upI, outI_u hrp, AV.rml, AV.rm, phiM_eq hrp, if_neg (show ¬ (rowsF fr k).m + r < (rowsF fr k).m by omega), Nat.add_sub_cancel_left]
          · have e1 : (rowsF fr (k + 1)).all.getD r default = (lvF fr).getD (r - (pairsF (rowsF fr k).all).length) default := next_hi (by omega)
            rw [if_neg hrp, e1]
            show _ = [AV.int .i64 ((lvF fr).getD (r - (pairsF (rowsF fr k).all).length) default).w, AV.int .i64 ((lvF fr).getD (r - (pairsF (rowsF fr k).all).length) default).k, AV.sl 3 ((lvF fr).getD (r - (pairsF (rowsF fr k).all).length) default).u 0 ys.length ys.length]
            rw [lvF_get (by omega)]
            have hr3 := r3 (r - (pairsF (rowsF fr k).all).length) (by omega)
            simp only [AV.rml, AV.rm, phiM_ne (show ¬ (3 = 3 ∧ (rowsF fr k).m ≤ r - (pairsF (rowsF fr k).all).length ∧ r - (pairsF (rowsF fr k).all).length < (rowsF fr k).m + (pairsF (rowsF fr k).all).length) by omega), if_pos (show r - (pairsF (rowsF fr k).all).length < (rowsF fr k).m by omega), hr3]
        · refine And.intro (.inl rfl) (And.intro (.inl rfl) (And.intro (.inl rfl) (And.intro (.inr (.inl ⟨0, (pairsF (rowsF fr k).all).length + (lvF fr).length, c1, rfl, ?_⟩)) (And.intro (.inl rfl) (And.intro (.inl rfl) trivial)))))
          show AV.sl 5 (gA + 1) 0 (rowsF fr (k + 1)).all.length c1 = _
          rw [hnl]
        · refine And.intro rfl (And.intro rfl (And.intro rfl (And.intro rfl (And.intro rfl (And.intro ?_ trivial)))))
          show aO 3 ys.length (fun j => if j < (rowsF fr k).m then cu j else cv (j - (rowsF fr k).m)) (gA + 1) c1 (rowsF fr (k + 1)).all = AO.one true (gA + 1) (.tab 3 ((pairsF (rowsF fr k).all).length + (lvF fr).length) _ c1)
          unfold aO
          rw [hnl]
      · simp only [decide_eq_false_iff_not] at hc
        have hkK : k = K := by omega
        subst hkK
        have hok := rowsF_ok b4 (by omega) k (by omega)
        rw [hn] at hok
        have hrl := rowsF_len_le fr k
        have hen := rowsF_enough fr (K := k) (by omega) (by omega)
        repeat ((conv => whnf); first | with_reducible refine O_step ?_ | with_reducible refine S_step ?_ | with_reducible refine D_step ?_ | with_reducible refine RO.exit ?_ | with_reducible refine RO.ret ?_ | ((with_reducible refine And.intro ?sc ?_); case sc => exact side))
        refine WO.go (σ := Nat × List It) (fun s => s.1 ≤ (rowsF fr k).all.length ∧ s.2 = numF s.1 (rowsF fr k).all) (fun s => (rowsF fr k).all.length - s.1)
          (fun s => [(6, .sl 1 0 0 fr.length fr.length), (7, .sl 2 g 0 ys.length cc), (16, .ptr 6 0 0), (106, .int .i64 (rowsF fr k).all.length), (107, .int .i64 (s.1 : Int))])
          (fun s => [.one false 0 (.ints .i64 fr c), .one true 0 (.ints .u8 (List.replicate fr.length 0) fr.length), .one true g (.ints .i64 ys cc), .fam false (rowsF fr k).m (uF (rowsF fr k).us cu), aO 3 ys.length (fun _ => ys.length) gL cL (lvF fr), aO 3 ys.length cu gA cA s.2, qO 5 gA (rowsF fr k).all.length cA]) (0, (rowsF fr k).all) tb_ok mixed (by kernel_rfl) ⟨Nat.zero_le _, (numF_zero _).symm⟩ (And.intro rfl (And.intro rfl (And.intro rfl (And.intro rfl (And.intro rfl (trivial)))))) (And.intro rfl (And.intro rfl (And.intro rfl (And.intro rfl (And.intro rfl (And.intro rfl (And.intro rfl (trivial)))))))) (fun _ => rfl) (fun _ => rfl) (fun _ => ⟨trivial, trivial, trivial, fun _ => trivial, fun _ => rfl, fun _ => rfl, rfl, trivial⟩) ?_
        rintro ⟨i, L1⟩ ⟨h1, h2⟩ d
        simp only at h1 h2
        have hl1 : L1.length = (rowsF fr k).all.length := by rw [h2, numF_len]
        repeat ((conv => whnf); first | with_reducible refine O_step ?_ | with_reducible refine S_step ?_ | with_reducible refine D_step ?_ | with_reducible refine RO.exit ?_ | with_reducible refine RO.ret ?_ | ((with_reducible refine And.intro ?sc ?_); case sc => exact side))
        refine And.intro (fun hc => ?_) (fun hc => ?_)
        · simp only [decide_eq_true_eq] at hc
          repeat ((conv => whnf); first | with_reducible refine O_step ?_ | with_reducible refine S_step ?_ | with_reducible refine D_step ?_ | with_reducible refine RO.exit ?_ | with_reducible refine RO.ret ?_ | ((with_reducible refine And.intro ?sc ?_); case sc => exact side) | ((with_reducible refine br_f ?sc ?_); case sc => exact sideB) | ((with_reducible refine br_t ?sc ?_); case sc => exact sideB))
          refine RO.mk (i + 1, numF (i + 1) (rowsF fr k).all) [(6, .sl 1 0 0 fr.length fr.length), (7, .sl 2 g 0 ys.length cc), (16, .ptr 6 0 0), (106, .int .i64 (rowsF fr k).all.length), (107, .int .i64 ((i : Int) + 1))] _ ⟨by show i + 1 ≤ _; omega, rfl⟩ (show (rowsF fr k).all.length - (i + 1) < (rowsF fr k).all.length - i by omega) (And.intro rfl (And.intro rfl (And.intro rfl (And.intro rfl (And.intro rfl (trivial)))))) rfl (Vw.tab (i := 5) (gU 3 ys.length cu (numF (i + 1) (rowsF fr k).all)) rfl ?_) ?_
          · intro r hr
            rw [hl1] at hr
            have := num_store (u := 3) (n := ys.length) (cu := cu) i (rowsF fr k).all r hr (by omega)
            rw [this, h2]
            rfl
          · refine And.intro rfl (And.intro rfl (And.intro rfl (And.intro rfl (And.intro rfl (And.intro ?_ (And.intro rfl trivial))))))
            show aO 3 ys.length cu gA cA (numF (i + 1) (rowsF fr k).all) = AO.one true gA (.tab 3 L1.length (gU 3 ys.length cu (numF (i + 1) (rowsF fr k).all)) cA)
            unfold aO
            rw [hl1, numF_len]
        · simp only [decide_eq_false_iff_not] at hc
          have hi : i = (rowsF fr k).all.length := by omega
          repeat ((conv => whnf); first | with_reducible refine O_step ?_ | with_reducible refine S_step ?_ | with_reducible refine D_step ?_ | with_reducible refine RO.exit ?_ | with_reducible refine RO.ret ?_ | ((with_reducible refine And.intro ?sc ?_); case sc => exact side))
          refine init_at (q := 6) (a := 5) (u := 3) (L := L1) rfl rfl rfl rfl (by omega) (by omega) (by omega) ?_
          have hst : initF (rowsF fr k).all.length ((rowsF fr k).all.length / 2) L1 = startF (rowsF fr k).all := by rw [h2, hi]; rfl
          rw [hst]
          repeat ((conv => whnf); first | with_reducible refine O_step ?_ | with_reducible refine S_step ?_ | with_reducible refine D_step ?_ | with_reducible refine RO.exit ?_ | with_reducible refine RO.ret ?_ | ((with_reducible refine And.intro ?sc ?_); case sc => exact side))
          refine WO.go (σ := Nat × List It × List It × List Int) (fun (h, Lc, ts, O) => Lc.length = (rowsF fr k).all.length ∧ h + ts.length = (rowsF fr k).all.length ∧ ts ++ popsF h Lc = popsF (rowsF fr k).all.length (startF (rowsF fr k).all) ∧ (∀ x ∈ Lc, x.u < (rowsF fr k).m) ∧ ts.length ≤ 2 * ys.length - 2 ∧ O = outT fr (rowsF fr k) ts) (fun (h, Lc, ts, O) => 2 * ys.length - 2 - ts.length)
            (fun (h, Lc, ts, O) => [(6, .sl 1 0 0 fr.length fr.length), (7, .sl 2 g 0 ys.length cc), (16, .ptr 6 0 0), (121, .int .i64 (2 * (ys.length : Int) - 2)), (122, .int .i64 (ts.length : Int))])
            (fun (h, Lc, ts, O) => [.one false 0 (.ints .i64 fr c), .one true 0 (.ints .u8 O fr.length), .one true g (.ints .i64 ys cc), .fam false (rowsF fr k).m (uF (rowsF fr k).us cu), aO 3 ys.length (fun _ => ys.length) gL cL (lvF fr), aO 3 ys.length cu gA cA Lc, qO 5 gA h cA]) ((rowsF fr k).all.length, startF (rowsF fr k).all, [], List.replicate fr.length 0) tb_ok mixed (by kernel_rfl) ⟨startF_len _, rfl, rfl, ?_, Nat.zero_le _, rfl⟩ (And.intro rfl (And.intro rfl (And.intro rfl (And.intro rfl (And.intro rfl (trivial)))))) (And.intro rfl (And.intro rfl (And.intro rfl (And.intro rfl (And.intro rfl (And.intro rfl (And.intro rfl (trivial)))))))) (fun _ => rfl) (fun _ => rfl) (fun _ => ⟨trivial, trivial, trivial, fun _ => trivial, fun _ => rfl, fun _ => rfl, rfl, trivial⟩) ?_
          · intro x hx
            obtain ⟨y, hy, _, e2⟩ := startF_mem hx
            rw [← e2]; exact (hok.items y hy).1
          rintro ⟨h, Lc, ts, O⟩ ⟨s1, s2, s3, s4, s5, s6⟩ d
          have hOl : O.length = fr.length := by rw [s6, outT_len]
          repeat ((conv => whnf); first | with_reducible refine O_step ?_ | with_reducible refine S_step ?_ | with_reducible refine D_step ?_ | with_reducible refine RO.exit ?_ | with_reducible refine RO.ret ?_ | ((with_reducible refine And.intro ?sc ?_); case sc => exact side))
          refine And.intro (fun hc => ?_) (fun hc => ?_)
          · have hc' : (ts.length : Int) < 2 * (ys.length : Int) - 2 := by simpa using hc
            obtain ⟨h', rfl⟩ : ∃ h', h = h' + 1 := ⟨h - 1, by omega⟩
            have hxm : (popF (h' + 1) Lc).getD h' default ∈ Lc := mem_popF (by omega) (by omega) (getD_mem (by rw [popF_len]; omega))
            generalize hL3 : popF (h' + 1) Lc = L3
            have hl3 : L3.length = Lc.length := by rw [← hL3, popF_len]
            have hL3m : ∀ x ∈ L3, x.u < (rowsF fr k).m := fun x hx => s4 x (mem_popF (by omega) (by omega) (hL3 ▸ hx))
            rw [hL3] at hxm
            generalize hx : L3.getD h' default = x
            rw [hx] at hxm
            have hxu := s4 x hxm
            have huv := hok.ul x.u hxu
            repeat ((conv => whnf); first | with_reducible refine O_step ?_ | with_reducible refine S_step ?_ | with_reducible refine D_step ?_ | with_reducible refine RO.exit ?_ | with_reducible refine RO.ret ?_ | ((with_reducible refine And.intro ?sc ?_); case sc => exact side))
            refine take_pull (q := 6) (a := 5) (u := 3) (h := h') (L := Lc) rfl rfl rfl rfl (by omega) (by omega) (by omega) (by omega) x (by rw [hL3]; exact hx) hxu rfl ?_
            rw [hL3]
            repeat ((conv => whnf); first | with_reducible refine O_step ?_ | with_reducible refine S_step ?_ | with_reducible refine D_step ?_ | with_reducible refine RO.exit ?_ | with_reducible refine RO.ret ?_ | ((with_reducible refine And.intro ?sc ?_); case sc => exact side))
            refine WO.go (σ := Nat × List Int) (fun s => s.1 ≤ ys.length ∧ s.2.length = fr.length ∧ s.2 = addK (usedF fr) ((rowsF fr k).us x.u) s.1 O) (fun s => ys.length - s.1)
              (fun s => [(6, .sl 1 0 0 fr.length fr.length), (7, .sl 2 g 0 ys.length cc), (16, .ptr 6 0 0), (121, .int .i64 (2 * (ys.length : Int) - 2)), (122, .int .i64 (ts.length : Int)), (125, .sl 7 0 0 ys.length (cu x.u)), (126, .int .i64 ys.length), (127, .int .i64 (s.1 : Int))])
              (fun s => [.one false 0 (.ints .i64 fr c), .one true 0 (.ints .u8 s.2 fr.length), .one true g (.ints .i64 ys cc), .fam false (rowsF fr k).m (uF (rowsF fr k).us cu), aO 3 ys.length (fun _ => ys.length) gL cL (lvF fr), aO 3 ys.length cu gA cA L3, qO 5 gA h' cA, .one false 0 (.ints .i64 ((rowsF fr k).us x.u) (cu x.u))]) (0, O) tb_ok mixed (by kernel_rfl) ⟨Nat.zero_le _, hOl, rfl⟩ (And.intro rfl (And.intro rfl (And.intro rfl (And.intro rfl (And.intro rfl (And.intro rfl (And.intro rfl (And.intro rfl (trivial))))))))) (And.intro rfl (And.intro rfl (And.intro rfl (And.intro rfl (And.intro rfl (And.intro rfl (And.intro rfl (And.intro rfl (trivial))))))))) (fun _ => rfl) (fun _ => rfl) (fun _ => ⟨trivial, trivial, trivial, fun _ => trivial, fun _ => rfl, fun _ => rfl, rfl, trivial, trivial⟩) ?_
            rintro ⟨i, O1⟩ ⟨o1, o2, o3⟩ d
            simp only at o1 o2 o3
            repeat ((conv => whnf); first | with_reducible refine O_step ?_ | with_reducible refine S_step ?_ | with_reducible refine D_step ?_ | with_reducible refine RO.exit ?_ | with_reducible refine RO.ret ?_ | ((with_reducible refine And.intro ?sc ?_); case sc => exact side))
            refine And.intro (fun hd => ?_) (fun hd => ?_)
            · simp only [decide_eq_true_eq] at hd
              obtain ⟨y1, y2⟩ := hyk i (by omega)
              have y3 : ys.getD ((i : Int).toNat + 0) 0 = ((usedF fr).getD i 0 : Int) := by rw [Int.toNat_natCast, Nat.add_zero]; exact y1
              have y4 : 0 ≤ ys.getD ((i : Int).toNat + 0) 0 ∧ ys.getD ((i : Int).toNat + 0) 0 < fr.length := by omega
              repeat ((conv => whnf); first | with_reducible refine O_step ?_ | with_reducible refine S_step ?_ | with_reducible refine D_step ?_ | with_reducible refine RO.exit ?_ | with_reducible refine RO.ret ?_ | ((with_reducible refine And.intro ?sc ?_); case sc => exact side) | ((with_reducible refine br_f ?sc ?_); case sc => exact sideB) | ((with_reducible refine br_t ?sc ?_); case sc => exact sideB))
              refine RO.same (i + 1, O1.set ((ys.getD ((i : Int).toNat + 0) 0).toNat + 0) ((O1.getD ((ys.getD ((i : Int).toNat + 0) 0).toNat + 0) 0 + ((rowsF fr k).us x.u).getD ((i : Int).toNat + 0) 0 % 256) % 256)) ⟨by show i + 1 ≤ _; omega, by simpa using o2, ?_⟩ (show ys.length - (i + 1) < ys.length - i by omega) (And.intro rfl (And.intro rfl (And.intro rfl (And.intro rfl (And.intro rfl (And.intro rfl (And.intro rfl (And.intro rfl (trivial))))))))) (And.intro rfl (And.intro rfl (And.intro rfl (And.intro rfl (And.intro rfl (And.intro rfl (And.intro rfl (And.intro rfl (trivial)))))))))
              show O1.set _ _ = addK (usedF fr) ((rowsF fr k).us x.u) (i + 1) O
              rw [addK_succ O (by omega) (by omega), ← o3, y3]
              simp only [Int.toNat_natCast, Nat.add_zero]
            · simp only [decide_eq_false_iff_not] at hd
              have hi : i = ys.length := by omega
              have hO : O1 = addU (usedF fr) ((rowsF fr k).us x.u) O := by rw [o3, addK_all O (by omega)]
              repeat ((conv => whnf); first | with_reducible refine O_step ?_ | with_reducible refine S_step ?_ | with_reducible refine D_step ?_ | with_reducible refine RO.exit ?_ | with_reducible refine RO.ret ?_ | ((with_reducible refine And.intro ?sc ?_); case sc => exact side))
              refine RO.same (h', L3, ts ++ [x], O1) ⟨by omega, by rw [List.length_append]; simp only [List.length_singleton]; omega, ?_, hL3m, by rw [List.length_append]; simp only [List.length_singleton]; omega, ?_⟩ (show 2 * ys.length - 2 - (ts ++ [x]).length < 2 * ys.length - 2 - ts.length by rw [List.length_append]; simp only [List.length_singleton]; omega) (And.intro rfl (And.intro rfl (And.intro rfl (And.intro rfl (And.intro ?_ trivial))))) (And.intro rfl (And.intro rfl (And.intro rfl (And.intro rfl (And.intro rfl (And.intro rfl (And.intro rfl (trivial))))))))
              · rw [← s3]
                simp only [popsF, hL3, hx, List.append_assoc, List.singleton_append]
              · rw [outT_snoc, hO, s6]
              · show AV.int .i64 ((ts.length : Int) + 1) = AV.int .i64 ((ts ++ [x]).length : Int)
                rw [List.length_append]; rfl
          · have hc' : ¬ (ts.length : Int) < 2 * (ys.length : Int) - 2 := by simpa using hc
            have hts : ts.length = 2 * (usedF fr).length - 2 := by omega
            have htk : (popsF (rowsF fr k).all.length (startF (rowsF fr k).all)).take (2 * (usedF fr).length - 2) = ts := by rw [← s3, ← hts, List.take_left']; rfl
            repeat ((conv => whnf); first | with_reducible refine O_step ?_ | with_reducible refine S_step ?_ | with_reducible refine D_step ?_ | with_reducible refine RO.exit ?_ | with_reducible refine RO.ret ?_ | ((with_reducible refine And.intro ?sc ?_); case sc => exact side))
            refine ⟨_, _, Vw.refl _ _, [.sha 0, .own 1], .tup [.sl 1 0 0 fr.length fr.length, .int .i64 0], [.one false 0 (.ints .i64 fr c), .one true 0 (.ints .u8 O fr.length)], ⟨⟨⟨rfl, _, rfl, rfl⟩, ⟨rfl, rfl⟩, trivial⟩, rfl, ⟨trivial, trivial, trivial⟩, rfl, ?_⟩, hres _ ?_⟩
            · intro i hi
              match i, hi with
              | 0, _ => exact .inr rfl
            rw [lenF_two k (by omega), htk]
            exact s6.symm
end

end Go.Proofs.Yteinenklppbjkaa
