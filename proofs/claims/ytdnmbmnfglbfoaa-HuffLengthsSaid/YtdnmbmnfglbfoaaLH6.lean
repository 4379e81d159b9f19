/- Layer 6: HuffLengths. -/
import Derived.Test.YtdnmbmnfglbfoaaH25

import Derived.Test.YtdnmbmnfglbfoaaLH4

set_option linter.unusedVariables false

set_option linter.unusedSimpArgs false

open Go.RowKit

namespace Go.Proofs.Ytdnmbmnfglbfoaa

set_option maxRecDepth 10000

section

variable {M : AH} {K Kp : AV → AH → Prop}

theorem used_at {i g n c0 co : Nat} {o : Bool} {fr : List Int} (hi : M[i]? = some (.one o g (.ints .i64 fr co))) (hn : n = fr.length) (hl : fr.length ≤ 2000)
    (h : K (.tup [.int .i64 (nF fr : Int), .bo (okF fr fr.length)]) M) : CallA Try.prog 12 [.sl i g 0 n c0] M K Kp := by
  subst hn
  refine CallA.lift [.win i g 0] (used_call (fr := fr) (c0 := c0) (c := co) (K := fun r M => r = .tup [.int .i64 (nF fr : Int), .bo (okF fr fr.length)] ∧ M = [.one false 0 (.ints .i64 fr co)]) (Kp := fun _ _ => False) hl ⟨rfl, rfl⟩) rfl rfl ⟨⟨_, _, _, rfl, slot_one hi, WinC.same rfl (fun h => h)⟩, trivial⟩ ⟨trivial, trivial⟩ ?_ (fun _ _ h => h.elim)
  rintro r M' ⟨rfl, rfl⟩
  refine ⟨⟨rfl, rfl⟩, ?_⟩
  rw [← List.append_nil M] at h
  exact h
theorem least_at {i g n c0 co N : Nat} {o : Bool} {fr : List Int} {v : Int} (hv : v = (N : Int)) (hi : M[i]? = some (.one o g (.ints .i64 fr co))) (hn' : n = fr.length) (hb : fr.any badI = false) (hl : fr.length ≤ 60) (h1 : 1 ≤ N) (h15 : N ≤ 15) (hn : 2 ≤ nF fr) (hN : nF fr ≤ 2 ^ N)
    (h : K (.int .i64 (wT fr N (2 * nF fr - 2))) M) : CallA Try.prog 14 [.sl i g 0 n c0, .int .i64 v] M K Kp := by
  subst hn'; subst hv
  refine CallA.lift [.win i g 0] (least_call (fr := fr) (c0 := c0) (c := co) (K := fun r M => r = .int .i64 (wT fr N (2 * nF fr - 2)) ∧ M = [.one false 0 (.ints .i64 fr co)]) (Kp := fun _ _ => False) hb hl h1 h15 hn hN ⟨rfl, rfl⟩) rfl rfl ⟨⟨_, _, _, rfl, slot_one hi, WinC.same rfl (fun h => h)⟩, trivial⟩ ⟨trivial, trivial⟩ ?_ (fun _ _ h => h.elim)
  rintro r M' ⟨rfl, rfl⟩
  refine ⟨⟨rfl, rfl⟩, ?_⟩
  rw [← List.append_nil M] at h
  exact h
end

/-- Lengths' three answers. -/
theorem lengthsF_three (fr : List Int) (limit : Int) : ((lengthsF fr limit).1.length = 0 ∧ (lengthsF fr limit).2 = 1 ∧ (limit < 1 ∨ 15 < limit ∨ okF fr fr.length = false)) ∨
    (1 ≤ limit ∧ limit ≤ 15 ∧ okF fr fr.length = true ∧ fr.length ≤ 320 ∧ fr.any badI = false ∧ (((lengthsF fr limit).1.length = 0 ∧ (lengthsF fr limit).2 = 60 ∧ 2 ^ limit.toNat < nF fr) ∨
      ((lengthsF fr limit).2 = 0 ∧ nF fr ≤ 2 ^ limit.toNat ∧ LensOk fr limit.toNat (lengthsF fr limit).1))) := by
  have hok : okF fr fr.length = (decide (fr.length ≤ 320) && !fr.any badI) := by unfold okF; rw [List.take_length]
  rcases lengthsF_cases fr limit with ⟨h1, h2⟩ | ⟨h1, h2, h3, h4, h5, h6, _, h8⟩
  · unfold lengthsF at h2 ⊢
    by_cases e1 : lenB fr limit = true
    · rw [if_pos e1]
      refine .inl ⟨rfl, rfl, ?_⟩
      rw [hok]
      unfold lenB at e1
      simp only [Bool.or_eq_true, decide_eq_true_eq] at e1
      rcases e1 with ((e | e) | e) | e
      · exact .inl e
      · exact .inr (.inl e)
      · exact .inr (.inr (by rw [decide_eq_false (by omega)]; rfl))
      · exact .inr (.inr (by rw [e]; simp))
    · rw [if_neg e1] at h2 ⊢
      by_cases e2 : 2 ^ limit.toNat < (usedF fr).length
      · rw [if_pos e2]
        unfold lenB at e1
        simp only [Bool.or_eq_true, decide_eq_true_eq, not_or, Bool.not_eq_true] at e1
        obtain ⟨⟨⟨a, b⟩, c⟩, d⟩ := e1
        refine .inr ⟨by omega, by omega, by rw [hok, d, decide_eq_true (by omega)]; rfl, by omega, d, .inl ⟨rfl, rfl, e2⟩⟩
      · rw [if_neg e2] at h2
        exact absurd rfl h2
  · refine .inr ⟨h2, h3, by rw [hok, h5, decide_eq_true h4]; rfl, h4, h5, .inr ⟨h1, h6, h8⟩⟩
theorem shr_pow {x : Int} (h1 : 0 ≤ x) (h15 : x ≤ 15) : shrF .i64 32768 x = 2 ^ (15 - x.toNat) := by
  obtain ⟨n, rfl⟩ : ∃ n : Nat, x = n := ⟨x.toNat, by omega⟩
  rw [Int.toNat_natCast]
  match n, h15 with
  | 0, _ => decide
  | 1, _ => decide
  | 2, _ => decide
  | 3, _ => decide
  | 4, _ => decide
  | 5, _ => decide
  | 6, _ => decide
  | 7, _ => decide
  | 8, _ => decide
  | 9, _ => decide
  | 10, _ => decide
  | 11, _ => decide
  | 12, _ => decide
  | 13, _ => decide
  | 14, _ => decide
  | 15, _ => decide
  | n + 16, h => exact absurd h (by omega)
theorem huffLengths_law (fr : List Int) (c : Nat) (hc : fr.length ≤ c ∧ c ≤ 9223372036854775807) (hx : ∀ x ∈ fr, IntKind.i64.min ≤ x ∧ x ≤ IntKind.i64.max) (limit : Int) (hlim : IntKind.i64.min ≤ limit ∧ limit ≤ IntKind.i64.max) :
    CallA Try.prog 3 [.sl 0 0 0 fr.length c, .int .i64 limit] [.one false 0 (.ints .i64 fr c)] (fun r _ => r = .bo true) (fun _ _ => False) := by
  refine CallA.post_asB ?_
  refine step3 (fun _ => [0, 1, 2]) [] rfl ?_
  repeat ((conv => whnf); first | with_reducible refine O_step ?_ | with_reducible refine S_step ?_ | with_reducible refine D_step ?_ | with_reducible refine RO.exit ?_ | with_reducible refine RO.ret ?_ | ((with_reducible refine And.intro ?sc ?_); case sc => exact side) | ((with_reducible refine br_f ?sc ?_); case sc => exact sideB) | ((with_reducible refine br_t ?sc ?_); case sc => exact sideB))
  refine And.intro (fun h1 => ?_) (fun h1 => ?_)
  · repeat ((conv => whnf); first | with_reducible refine O_step ?_ | with_reducible refine S_step ?_ | with_reducible refine D_step ?_ | with_reducible refine RO.exit ?_ | with_reducible refine RO.ret ?_ | ((with_reducible refine And.intro ?sc ?_); case sc => exact side) | ((with_reducible refine br_f ?sc ?_); case sc => exact sideB) | ((with_reducible refine br_t ?sc ?_); case sc => exact sideB))
    refine And.intro (fun h2 => ?_) (fun h2 => ?_)
    · repeat ((conv => whnf); first | with_reducible refine O_step ?_ | with_reducible refine S_step ?_ | with_reducible refine D_step ?_ | with_reducible refine RO.exit ?_ | with_reducible refine RO.ret ?_ | ((with_reducible refine And.intro ?sc ?_); case sc => exact side) | ((with_reducible refine br_f ?sc ?_); case sc => exact sideB) | ((with_reducible refine br_t ?sc ?_); case sc => exact sideB))
      exact ⟨true, rfl, rfl⟩
    · repeat ((conv => whnf); first | with_reducible refine O_step ?_ | with_reducible refine S_step ?_ | with_reducible refine D_step ?_ | with_reducible refine RO.exit ?_ | with_reducible refine RO.ret ?_ | ((with_reducible refine And.intro ?sc ?_); case sc => exact side) | ((with_reducible refine br_f ?sc ?_); case sc => exact sideB) | ((with_reducible refine br_t ?sc ?_); case sc => exact sideB))
      refine And.intro (fun h3 => ?_) (fun h3 => ?_)
      · repeat ((conv => whnf); first | with_reducible refine O_step ?_ | with_reducible refine S_step ?_ | with_reducible refine D_step ?_ | with_reducible refine RO.exit ?_ | with_reducible refine RO.ret ?_ | ((with_reducible refine And.intro ?sc ?_); case sc => exact side) | ((with_reducible refine br_f ?sc ?_); case sc => exact sideB) | ((with_reducible refine br_t ?sc ?_); case sc => exact sideB))
        exact ⟨true, rfl, rfl⟩
      · have hl : fr.length ≤ 2000 := by simp only [decide_eq_false_iff_not] at h3; omega
        have hsm : fr.length ≤ 60 ∨ 320 < fr.length := .inr (by simp only [decide_eq_false_iff_not] at h2; omega)
        repeat ((conv => whnf); first | with_reducible refine O_step ?_ | with_reducible refine S_step ?_ | with_reducible refine D_step ?_ | with_reducible refine RO.exit ?_ | with_reducible refine RO.ret ?_ | ((with_reducible refine And.intro ?sc ?_); case sc => exact side) | ((with_reducible refine br_f ?sc ?_); case sc => exact sideB) | ((with_reducible refine br_t ?sc ?_); case sc => exact sideB))
        intro zs hzs
        obtain rfl : fr = zs := by rw [hzs]; simp
        repeat ((conv => whnf); first | with_reducible refine O_step ?_ | with_reducible refine S_step ?_ | with_reducible refine D_step ?_ | with_reducible refine RO.exit ?_ | with_reducible refine RO.ret ?_ | ((with_reducible refine And.intro ?sc ?_); case sc => exact side) | ((with_reducible refine br_f ?sc ?_); case sc => exact sideB) | ((with_reducible refine br_t ?sc ?_); case sc => exact sideB))
        intro c1 hc1
        have hcs := lengthsF_three fr limit
        generalize hLL : lengthsF fr limit = LL at hcs
        obtain ⟨L, e⟩ := LL
        simp only at hcs
        repeat ((conv => whnf); first | with_reducible refine O_step ?_ | with_reducible refine S_step ?_ | with_reducible refine D_step ?_ | with_reducible refine RO.exit ?_ | with_reducible refine RO.ret ?_ | ((with_reducible refine And.intro ?sc ?_); case sc => exact side) | ((with_reducible refine br_f ?sc ?_); case sc => exact sideB) | ((with_reducible refine br_t ?sc ?_); case sc => exact sideB))
        refine lengths_at (i := 1) (fr := fr) rfl rfl (by omega) fun g2 c2 hc2 => ?_
        rw [hLL]
        repeat ((conv => whnf); first | with_reducible refine O_step ?_ | with_reducible refine S_step ?_ | with_reducible refine D_step ?_ | with_reducible refine RO.exit ?_ | with_reducible refine RO.ret ?_ | ((with_reducible refine And.intro ?sc ?_); case sc => exact side) | ((with_reducible refine br_f ?sc ?_); case sc => exact sideB) | ((with_reducible refine br_t ?sc ?_); case sc => exact sideB))
        refine WO.go (σ := Nat) (fun i => i ≤ fr.length) (fun i => fr.length - i)
          (fun i => [(0, .sl 0 0 0 fr.length c), (1, .int .i64 limit), (5, .sl 1 0 0 fr.length c1), (6, .sl 2 g2 0 L.length c2), (7, .int .i64 e), (8, .int .i64 (i : Int))])
          (fun _ => [.one false 0 (.ints .i64 fr c), .one true 0 (.ints .i64 fr c1), .one true g2 (.ints .u8 L c2)]) 0 tb_ok mixed (by kernel_rfl) (Nat.zero_le _) (And.intro rfl (And.intro rfl (And.intro rfl (And.intro rfl (And.intro rfl (And.intro rfl (trivial))))))) (And.intro rfl (And.intro rfl (And.intro rfl (trivial)))) (fun _ => rfl) (fun _ => rfl) (fun _ => ⟨trivial, trivial, trivial, trivial⟩) ?_
        intro i i1 d
        have i1 : i ≤ fr.length := i1
        repeat ((conv => whnf); first | with_reducible refine O_step ?_ | with_reducible refine S_step ?_ | with_reducible refine D_step ?_ | with_reducible refine RO.exit ?_ | with_reducible refine RO.ret ?_ | ((with_reducible refine And.intro ?sc ?_); case sc => exact side) | ((with_reducible refine br_f ?sc ?_); case sc => exact sideB) | ((with_reducible refine br_t ?sc ?_); case sc => exact sideB))
        refine And.intro (fun hi => ?_) (fun hi => ?_)
        · have hil : i < fr.length := by simp only [decide_eq_true_eq] at hi; omega
          repeat ((conv => whnf); first | with_reducible refine O_step ?_ | with_reducible refine S_step ?_ | with_reducible refine D_step ?_ | with_reducible refine RO.exit ?_ | with_reducible refine RO.ret ?_ | ((with_reducible refine And.intro ?sc ?_); case sc => exact side) | ((with_reducible refine br_f ?sc ?_); case sc => exact sideB) | ((with_reducible refine br_t ?sc ?_); case sc => exact sideB))
          refine RO.same (i + 1) (by show i + 1 ≤ _; omega) (show fr.length - (i + 1) < fr.length - i by omega) (And.intro rfl (And.intro rfl (And.intro rfl (And.intro rfl (And.intro rfl (And.intro rfl (trivial))))))) (And.intro rfl (And.intro rfl (And.intro rfl (trivial))))
        repeat ((conv => whnf); first | with_reducible refine O_step ?_ | with_reducible refine S_step ?_ | with_reducible refine D_step ?_ | with_reducible refine RO.exit ?_ | with_reducible refine RO.ret ?_ | ((with_reducible refine And.intro ?sc ?_); case sc => exact side) | ((with_reducible refine br_f ?sc ?_); case sc => exact sideB) | ((with_reducible refine br_t ?sc ?_); case sc => exact sideB))
        refine used_at (i := 0) (fr := fr) rfl rfl hl ?_
        repeat ((conv => whnf); first | with_reducible refine O_step ?_ | with_reducible refine S_step ?_ | with_reducible refine D_step ?_ | with_reducible refine RO.exit ?_ | with_reducible refine RO.ret ?_ | ((with_reducible refine And.intro ?sc ?_); case sc => exact side) | ((with_reducible refine br_f ?sc ?_); case sc => exact sideB) | ((with_reducible refine br_t ?sc ?_); case sc => exact sideB))
        refine And.intro (fun x1 => ?_) (fun x1 => ?_)
        · have hA : L.length = 0 ∧ e = 1 := by
            rcases hcs with h | h
            · exact ⟨h.1, h.2.1⟩
            · exfalso; simp only [decide_eq_true_eq] at x1; omega
          repeat ((conv => whnf); first | with_reducible refine O_step ?_ | with_reducible refine S_step ?_ | with_reducible refine D_step ?_ | with_reducible refine RO.exit ?_ | with_reducible refine RO.ret ?_ | ((with_reducible refine And.intro ?sc ?_); case sc => exact side) | ((with_reducible refine br_f ?sc ?_); case sc => exact sideB) | ((with_reducible refine br_t ?sc ?_); case sc => exact sideB))
          refine And.intro (fun y1 => ?_) (fun y1 => ?_)
          · repeat ((conv => whnf); first | with_reducible refine O_step ?_ | with_reducible refine S_step ?_ | with_reducible refine D_step ?_ | with_reducible refine RO.exit ?_ | with_reducible refine RO.ret ?_ | ((with_reducible refine And.intro ?sc ?_); case sc => exact side) | ((with_reducible refine br_f ?sc ?_); case sc => exact sideB) | ((with_reducible refine br_t ?sc ?_); case sc => exact sideB))
            refine And.intro (fun y2 => ?_) (fun y2 => ?_)
            · repeat ((conv => whnf); first | with_reducible refine O_step ?_ | with_reducible refine S_step ?_ | with_reducible refine D_step ?_ | with_reducible refine RO.exit ?_ | with_reducible refine RO.ret ?_ | ((with_reducible refine And.intro ?sc ?_); case sc => exact side) | ((with_reducible refine br_f ?sc ?_); case sc => exact sideB) | ((with_reducible refine br_t ?sc ?_); case sc => exact sideB))
              refine hcodes_at ?_
              repeat ((conv => whnf); first | with_reducible refine O_step ?_ | with_reducible refine S_step ?_ | with_reducible refine D_step ?_ | with_reducible refine RO.exit ?_ | with_reducible refine RO.ret ?_ | ((with_reducible refine And.intro ?sc ?_); case sc => exact side) | ((with_reducible refine br_f ?sc ?_); case sc => exact sideB) | ((with_reducible refine br_t ?sc ?_); case sc => exact sideB))
              exact ⟨true, rfl, rfl⟩
            · exfalso; simp [hA.2] at y2
          · exfalso; simp [hA.1] at y1
        repeat ((conv => whnf); first | with_reducible refine O_step ?_ | with_reducible refine S_step ?_ | with_reducible refine D_step ?_ | with_reducible refine RO.exit ?_ | with_reducible refine RO.ret ?_ | ((with_reducible refine And.intro ?sc ?_); case sc => exact side) | ((with_reducible refine br_f ?sc ?_); case sc => exact sideB) | ((with_reducible refine br_t ?sc ?_); case sc => exact sideB))
        refine And.intro (fun x2 => ?_) (fun x2 => ?_)
        · have hA : L.length = 0 ∧ e = 1 := by
            rcases hcs with h | h
            · exact ⟨h.1, h.2.1⟩
            · exfalso; simp only [decide_eq_true_eq] at x2; omega
          repeat ((conv => whnf); first | with_reducible refine O_step ?_ | with_reducible refine S_step ?_ | with_reducible refine D_step ?_ | with_reducible refine RO.exit ?_ | with_reducible refine RO.ret ?_ | ((with_reducible refine And.intro ?sc ?_); case sc => exact side) | ((with_reducible refine br_f ?sc ?_); case sc => exact sideB) | ((with_reducible refine br_t ?sc ?_); case sc => exact sideB))
          refine And.intro (fun y1 => ?_) (fun y1 => ?_)
          · repeat ((conv => whnf); first | with_reducible refine O_step ?_ | with_reducible refine S_step ?_ | with_reducible refine D_step ?_ | with_reducible refine RO.exit ?_ | with_reducible refine RO.ret ?_ | ((with_reducible refine And.intro ?sc ?_); case sc => exact side) | ((with_reducible refine br_f ?sc ?_); case sc => exact sideB) | ((with_reducible refine br_t ?sc ?_); case sc => exact sideB))
            refine And.intro (fun y2 => ?_) (fun y2 => ?_)
            · repeat ((conv => whnf); first | with_reducible refine O_step ?_ | with_reducible refine S_step ?_ | with_reducible refine D_step ?_ | with_reducible refine RO.exit ?_ | with_reducible refine RO.ret ?_ | ((with_reducible refine And.intro ?sc ?_); case sc => exact side) | ((with_reducible refine br_f ?sc ?_); case sc => exact sideB) | ((with_reducible refine br_t ?sc ?_); case sc => exact sideB))
              refine hcodes_at ?_
              repeat ((conv => whnf); first | with_reducible refine O_step ?_ | with_reducible refine S_step ?_ | with_reducible refine D_step ?_ | with_reducible refine RO.exit ?_ | with_reducible refine RO.ret ?_ | ((with_reducible refine And.intro ?sc ?_); case sc => exact side) | ((with_reducible refine br_f ?sc ?_); case sc => exact sideB) | ((with_reducible refine br_t ?sc ?_); case sc => exact sideB))
              exact ⟨true, rfl, rfl⟩
            · exfalso; simp [hA.2] at y2
          · exfalso; simp [hA.1] at y1
        repeat ((conv => whnf); first | with_reducible refine O_step ?_ | with_reducible refine S_step ?_ | with_reducible refine D_step ?_ | with_reducible refine RO.exit ?_ | with_reducible refine RO.ret ?_ | ((with_reducible refine And.intro ?sc ?_); case sc => exact side) | ((with_reducible refine br_f ?sc ?_); case sc => exact sideB) | ((with_reducible refine br_t ?sc ?_); case sc => exact sideB))
        refine And.intro (fun x3 => ?_) (fun x3 => ?_)
        · have hA : L.length = 0 ∧ e = 1 := by
            rcases hcs with h | h
            · exact ⟨h.1, h.2.1⟩
            · exfalso; rw [h.2.2.1] at x3; cases x3
          repeat ((conv => whnf); first | with_reducible refine O_step ?_ | with_reducible refine S_step ?_ | with_reducible refine D_step ?_ | with_reducible refine RO.exit ?_ | with_reducible refine RO.ret ?_ | ((with_reducible refine And.intro ?sc ?_); case sc => exact side) | ((with_reducible refine br_f ?sc ?_); case sc => exact sideB) | ((with_reducible refine br_t ?sc ?_); case sc => exact sideB))
          refine And.intro (fun y1 => ?_) (fun y1 => ?_)
          · repeat ((conv => whnf); first | with_reducible refine O_step ?_ | with_reducible refine S_step ?_ | with_reducible refine D_step ?_ | with_reducible refine RO.exit ?_ | with_reducible refine RO.ret ?_ | ((with_reducible refine And.intro ?sc ?_); case sc => exact side) | ((with_reducible refine br_f ?sc ?_); case sc => exact sideB) | ((with_reducible refine br_t ?sc ?_); case sc => exact sideB))
            refine And.intro (fun y2 => ?_) (fun y2 => ?_)
            · repeat ((conv => whnf); first | with_reducible refine O_step ?_ | with_reducible refine S_step ?_ | with_reducible refine D_step ?_ | with_reducible refine RO.exit ?_ | with_reducible refine RO.ret ?_ | ((with_reducible refine And.intro ?sc ?_); case sc => exact side) | ((with_reducible refine br_f ?sc ?_); case sc => exact sideB) | ((with_reducible refine br_t ?sc ?_); case sc => exact sideB))
              refine hcodes_at ?_
              repeat ((conv => whnf); first | with_reducible refine O_step ?_ | with_reducible refine S_step ?_ | with_reducible refine D_step ?_ | with_reducible refine RO.exit ?_ | with_reducible refine RO.ret ?_ | ((with_reducible refine And.intro ?sc ?_); case sc => exact side) | ((with_reducible refine br_f ?sc ?_); case sc => exact sideB) | ((with_reducible refine br_t ?sc ?_); case sc => exact sideB))
              exact ⟨true, rfl, rfl⟩
            · exfalso; simp [hA.2] at y2
          · exfalso; simp [hA.1] at y1
        have hcs2 : 1 ≤ limit ∧ limit ≤ 15 ∧ fr.length ≤ 320 ∧ fr.any badI = false ∧ ((L.length = 0 ∧ e = 60 ∧ 2 ^ limit.toNat < nF fr) ∨ (e = 0 ∧ nF fr ≤ 2 ^ limit.toNat ∧ LensOk fr limit.toNat L)) := by
          rcases hcs with h | h
          · exfalso
            simp only [decide_eq_false_iff_not] at x1 x2
            rcases h.2.2 with h | h | h
            · omega
            · omega
            · rw [h] at x3; cases x3
          · exact ⟨h.1, h.2.1, h.2.2.2.1, h.2.2.2.2.1, h.2.2.2.2.2⟩
        clear hcs x3
        obtain ⟨l1, l15, h320, hbad, hcs⟩ := hcs2
        have hlN : ((limit.toNat : Nat) : Int) = limit := by omega
        have hshl : shlF .i64 1 limit = ((2 ^ limit.toNat : Nat) : Int) := by rw [← shl_small limit.toNat (by omega), hlN]
        have hfr60 : fr.length ≤ 60 := by omega
        repeat ((conv => whnf); first | with_reducible refine O_step ?_ | with_reducible refine S_step ?_ | with_reducible refine D_step ?_ | with_reducible refine RO.exit ?_ | with_reducible refine RO.ret ?_ | ((with_reducible refine And.intro ?sc ?_); case sc => exact side) | ((with_reducible refine br_f ?sc ?_); case sc => exact sideB) | ((with_reducible refine br_t ?sc ?_); case sc => exact sideB))
        refine And.intro (fun x4 => ?_) (fun x4 => ?_)
        · have hA : L.length = 0 ∧ e = 60 := by
            rcases hcs with h | h
            · exact ⟨h.1, h.2.1⟩
            · exfalso; rw [hshl] at x4; simp only [decide_eq_true_eq] at x4; have := h.2.1; omega
          repeat ((conv => whnf); first | with_reducible refine O_step ?_ | with_reducible refine S_step ?_ | with_reducible refine D_step ?_ | with_reducible refine RO.exit ?_ | with_reducible refine RO.ret ?_ | ((with_reducible refine And.intro ?sc ?_); case sc => exact side) | ((with_reducible refine br_f ?sc ?_); case sc => exact sideB) | ((with_reducible refine br_t ?sc ?_); case sc => exact sideB))
          refine And.intro (fun y1 => ?_) (fun y1 => ?_)
          · repeat ((conv => whnf); first | with_reducible refine O_step ?_ | with_reducible refine S_step ?_ | with_reducible refine D_step ?_ | with_reducible refine RO.exit ?_ | with_reducible refine RO.ret ?_ | ((with_reducible refine And.intro ?sc ?_); case sc => exact side) | ((with_reducible refine br_f ?sc ?_); case sc => exact sideB) | ((with_reducible refine br_t ?sc ?_); case sc => exact sideB))
            refine And.intro (fun y2 => ?_) (fun y2 => ?_)
            · repeat ((conv => whnf); first | with_reducible refine O_step ?_ | with_reducible refine S_step ?_ | with_reducible refine D_step ?_ | with_reducible refine RO.exit ?_ | with_reducible refine RO.ret ?_ | ((with_reducible refine And.intro ?sc ?_); case sc => exact side) | ((with_reducible refine br_f ?sc ?_); case sc => exact sideB) | ((with_reducible refine br_t ?sc ?_); case sc => exact sideB))
              refine hcodes_at ?_
              repeat ((conv => whnf); first | with_reducible refine O_step ?_ | with_reducible refine S_step ?_ | with_reducible refine D_step ?_ | with_reducible refine RO.exit ?_ | with_reducible refine RO.ret ?_ | ((with_reducible refine And.intro ?sc ?_); case sc => exact side) | ((with_reducible refine br_f ?sc ?_); case sc => exact sideB) | ((with_reducible refine br_t ?sc ?_); case sc => exact sideB))
              exact ⟨true, rfl, rfl⟩
            · exfalso; simp [hA.2] at y2
          · exfalso; simp [hA.1] at y1
        have hcs3 : e = 0 ∧ nF fr ≤ 2 ^ limit.toNat ∧ LensOk fr limit.toNat L := by
          rcases hcs with h | h
          · exfalso; rw [hshl] at x4; simp only [decide_eq_false_iff_not] at x4; have := h.2.2; omega
          · exact h
        clear hcs
        obtain ⟨he, hnN, ok⟩ := hcs3
        have hLl := ok.len
        repeat ((conv => whnf); first | with_reducible refine O_step ?_ | with_reducible refine S_step ?_ | with_reducible refine D_step ?_ | with_reducible refine RO.exit ?_ | with_reducible refine RO.ret ?_ | ((with_reducible refine And.intro ?sc ?_); case sc => exact side) | ((with_reducible refine br_f ?sc ?_); case sc => exact sideB) | ((with_reducible refine br_t ?sc ?_); case sc => exact sideB))
        refine And.intro (fun x5 => ?_) (fun x5 => ?_)
        · exfalso; simp [he] at x5
        repeat ((conv => whnf); first | with_reducible refine O_step ?_ | with_reducible refine S_step ?_ | with_reducible refine D_step ?_ | with_reducible refine RO.exit ?_ | with_reducible refine RO.ret ?_ | ((with_reducible refine And.intro ?sc ?_); case sc => exact side) | ((with_reducible refine br_f ?sc ?_); case sc => exact sideB) | ((with_reducible refine br_t ?sc ?_); case sc => exact sideB))
        refine And.intro (fun x6 => ?_) (fun x6 => ?_)
        · exfalso; simp [hLl] at x6
        repeat ((conv => whnf); first | with_reducible refine O_step ?_ | with_reducible refine S_step ?_ | with_reducible refine D_step ?_ | with_reducible refine RO.exit ?_ | with_reducible refine RO.ret ?_ | ((with_reducible refine And.intro ?sc ?_); case sc => exact side) | ((with_reducible refine br_f ?sc ?_); case sc => exact sideB) | ((with_reducible refine br_t ?sc ?_); case sc => exact sideB))
        have hfb : ∀ j, j < fr.length → 0 ≤ fr.getD j 0 ∧ fr.getD j 0 ≤ 1099511627776 := fun j hj => any_badI hbad (getD_memI hj)
        have hLb : ∀ j, j < fr.length → 0 ≤ L.getD j 0 ∧ L.getD j 0 ≤ limit := fun j hj => by have := ok.rng hj; omega
        refine WO.go (σ := Nat × Int × Int) (fun s => s.1 ≤ fr.length ∧ s.2.1 = sumN s.1 (fun j => if 0 < fr.getD j 0 then 2 ^ (15 - (L.getD j 0).toNat) else 0) ∧ s.2.2 = sumN s.1 (fun j => if 0 < fr.getD j 0 then fr.getD j 0 * L.getD j 0 else 0) ∧ 0 ≤ s.2.1 ∧ s.2.1 ≤ s.1 * 32768 ∧ 0 ≤ s.2.2 ∧ s.2.2 ≤ s.1 * 17592186044416) (fun s => fr.length - s.1)
          (fun s => [(0, .sl 0 0 0 fr.length c), (1, .int .i64 limit), (6, .sl 2 g2 0 L.length c2), (9, .int .i64 (nF fr : Int)), (11, .int .i64 s.2.1), (12, .int .i64 s.2.2), (13, .int .i64 (s.1 : Int))])
          (fun _ => [.one false 0 (.ints .i64 fr c), .gone, .one true g2 (.ints .u8 L c2)]) (0, 0, 0) tb_ok mixed (by kernel_rfl) ⟨Nat.zero_le _, rfl, rfl, by decide, by decide, by decide, by decide⟩ (And.intro rfl (And.intro rfl (And.intro rfl (And.intro rfl (And.intro rfl (And.intro rfl (And.intro rfl (trivial)))))))) (And.intro rfl (And.intro trivial (And.intro rfl (trivial)))) (fun _ => rfl) (fun _ => rfl) (fun _ => ⟨trivial, trivial, trivial, trivial⟩) ?_
        rintro ⟨j, su, co⟩ ⟨j1, j2, j3, j4, j5, j6, j7⟩ d1
        simp only at j1 j2 j3 j4 j5 j6 j7
        repeat ((conv => whnf); first | with_reducible refine O_step ?_ | with_reducible refine S_step ?_ | with_reducible refine D_step ?_ | with_reducible refine RO.exit ?_ | with_reducible refine RO.ret ?_ | ((with_reducible refine And.intro ?sc ?_); case sc => exact side) | ((with_reducible refine br_f ?sc ?_); case sc => exact sideB) | ((with_reducible refine br_t ?sc ?_); case sc => exact sideB))
        refine And.intro (fun hj => ?_) (fun hj => ?_)
        · have hjl : j < fr.length := by simp only [decide_eq_true_eq] at hj; omega
          have hjL : j < L.length := by omega
          have b1 : 0 ≤ fr.getD ((j : Int).toNat + 0) 0 ∧ fr.getD ((j : Int).toNat + 0) 0 ≤ 1099511627776 := hfb j hjl
          have b2 : 0 ≤ L.getD ((j : Int).toNat + 0) 0 ∧ L.getD ((j : Int).toNat + 0) 0 ≤ limit := hLb j hjl
          have hpp : 0 < L.getD j 0 ↔ 0 < fr.getD j 0 := by
            constructor
            · intro h
              rcases Int.lt_or_le 0 (fr.getD j 0) with h2 | h2
              · exact h2
              · have := ok.zero j hjl (by omega); omega
            · intro h
              have := ok.pos j hjl h; omega
          have hsh : shrF .i64 32768 (L.getD ((j : Int).toNat + 0) 0) = 2 ^ (15 - (L.getD j 0).toNat) := shr_pow (by omega) (by have := b2.2; omega)
          have hsb : 0 ≤ shrF .i64 32768 (L.getD ((j : Int).toNat + 0) 0) ∧ shrF .i64 32768 (L.getD ((j : Int).toNat + 0) 0) ≤ 32768 := by
            rw [hsh]
            exact ⟨Int.le_of_lt (pow2_pos _), by have := pow2_le (show 15 - (L.getD j 0).toNat ≤ 15 by omega); simpa using this⟩
          have b3 : 0 ≤ fr.getD ((j : Int).toNat + 0) 0 * L.getD ((j : Int).toNat + 0) 0 := Int.mul_nonneg b1.1 b2.1
          have b4 : fr.getD ((j : Int).toNat + 0) 0 * L.getD ((j : Int).toNat + 0) 0 ≤ 1099511627776 * 15 := Int.mul_le_mul b1.2 (by omega) b2.1 (by decide)
          repeat ((conv => whnf); first | with_reducible refine O_step ?_ | with_reducible refine S_step ?_ | with_reducible refine D_step ?_ | with_reducible refine RO.exit ?_ | with_reducible refine RO.ret ?_ | ((with_reducible refine And.intro ?sc ?_); case sc => exact side) | ((with_reducible refine br_f ?sc ?_); case sc => exact sideB) | ((with_reducible refine br_t ?sc ?_); case sc => exact sideB))
          refine And.intro (fun w1 => ?_) (fun w1 => ?_)
          · exfalso
            have w1' : (!(decide (0 < L.getD ((j : Int).toNat + 0) 0) == decide (0 < fr.getD ((j : Int).toNat + 0) 0))) = true := w1
            rw [show decide (0 < L.getD ((j : Int).toNat + 0) 0) = decide (0 < fr.getD ((j : Int).toNat + 0) 0) from decide_eq_decide.2 hpp, beq_self_eq_true] at w1'
            cases w1'
          repeat ((conv => whnf); first | with_reducible refine O_step ?_ | with_reducible refine S_step ?_ | with_reducible refine D_step ?_ | with_reducible refine RO.exit ?_ | with_reducible refine RO.ret ?_ | ((with_reducible refine And.intro ?sc ?_); case sc => exact side) | ((with_reducible refine br_f ?sc ?_); case sc => exact sideB) | ((with_reducible refine br_t ?sc ?_); case sc => exact sideB))
          refine And.intro (fun w2 => ?_) (fun w2 => ?_)
          · exfalso; simp only [decide_eq_true_eq] at w2; omega
          repeat ((conv => whnf); first | with_reducible refine O_step ?_ | with_reducible refine S_step ?_ | with_reducible refine D_step ?_ | with_reducible refine RO.exit ?_ | with_reducible refine RO.ret ?_ | ((with_reducible refine And.intro ?sc ?_); case sc => exact side) | ((with_reducible refine br_f ?sc ?_); case sc => exact sideB) | ((with_reducible refine br_t ?sc ?_); case sc => exact sideB))
          refine And.intro (fun w3 => ?_) (fun w3 => ?_)
          · repeat ((conv => whnf); first | with_reducible refine O_step ?_ | with_reducible refine S_step ?_ | with_reducible refine D_step ?_ | with_reducible refine RO.exit ?_ | with_reducible refine RO.ret ?_ | ((with_reducible refine And.intro ?sc ?_); case sc => exact side) | ((with_reducible refine br_f ?sc ?_); case sc => exact sideB) | ((with_reducible refine br_t ?sc ?_); case sc => exact sideB))
            refine And.intro (fun w4 => ?_) (fun w4 => ?_)
            · exfalso
              simp only [decide_eq_true_eq] at w3 w4
              have := ok.one (by omega) j
              exact absurd w4 (Int.not_lt.2 this)
            repeat ((conv => whnf); first | with_reducible refine O_step ?_ | with_reducible refine S_step ?_ | with_reducible refine D_step ?_ | with_reducible refine RO.exit ?_ | with_reducible refine RO.ret ?_ | ((with_reducible refine And.intro ?sc ?_); case sc => exact side) | ((with_reducible refine br_f ?sc ?_); case sc => exact sideB) | ((with_reducible refine br_t ?sc ?_); case sc => exact sideB))
            refine And.intro (fun w5 => ?_) (fun w5 => ?_)
            · have w5' : 0 < fr.getD j 0 := hpp.1 (by simpa using w5)
              repeat ((conv => whnf); first | with_reducible refine O_step ?_ | with_reducible refine S_step ?_ | with_reducible refine D_step ?_ | with_reducible refine RO.exit ?_ | with_reducible refine RO.ret ?_ | ((with_reducible refine And.intro ?sc ?_); case sc => exact side) | ((with_reducible refine br_f ?sc ?_); case sc => exact sideB) | ((with_reducible refine br_t ?sc ?_); case sc => exact sideB))
              refine RO.same (j + 1, su + shrF .i64 32768 (L.getD ((j : Int).toNat + 0) 0), co + fr.getD ((j : Int).toNat + 0) 0 * L.getD ((j : Int).toNat + 0) 0) ⟨by show j + 1 ≤ _; omega, by show su + _ = sumN (j + 1) _; rw [j2, hsh]; simp only [sumN]; rw [if_pos w5'], by show co + _ = sumN (j + 1) _; rw [j3]; simp only [sumN]; rw [if_pos w5']; rfl, by show 0 ≤ su + _; omega, by show su + _ ≤ ((j + 1 : Nat) : Int) * _; omega, by show 0 ≤ co + _; omega, by show co + _ ≤ ((j + 1 : Nat) : Int) * _; omega⟩ (show fr.length - (j + 1) < fr.length - j by omega) (And.intro rfl (And.intro rfl (And.intro rfl (And.intro rfl (And.intro rfl (And.intro rfl (And.intro rfl (trivial)))))))) (And.intro rfl (And.intro trivial (And.intro rfl (trivial))))
            · have w5' : ¬ 0 < fr.getD j 0 := fun h => by have := hpp.2 h; simp only [decide_eq_false_iff_not] at w5; exact w5 this
              repeat ((conv => whnf); first | with_reducible refine O_step ?_ | with_reducible refine S_step ?_ | with_reducible refine D_step ?_ | with_reducible refine RO.exit ?_ | with_reducible refine RO.ret ?_ | ((with_reducible refine And.intro ?sc ?_); case sc => exact side) | ((with_reducible refine br_f ?sc ?_); case sc => exact sideB) | ((with_reducible refine br_t ?sc ?_); case sc => exact sideB))
              refine RO.same (j + 1, su, co) ⟨by show j + 1 ≤ _; omega, by show su = sumN (j + 1) _; simp only [sumN]; rw [if_neg w5', j2]; omega, by show co = sumN (j + 1) _; simp only [sumN]; rw [if_neg w5', j3]; omega, j4, by show su ≤ ((j + 1 : Nat) : Int) * _; omega, j6, by show co ≤ ((j + 1 : Nat) : Int) * _; omega⟩ (show fr.length - (j + 1) < fr.length - j by omega) (And.intro rfl (And.intro rfl (And.intro rfl (And.intro rfl (And.intro rfl (And.intro rfl (And.intro rfl (trivial)))))))) (And.intro rfl (And.intro trivial (And.intro rfl (trivial))))
          · repeat ((conv => whnf); first | with_reducible refine O_step ?_ | with_reducible refine S_step ?_ | with_reducible refine D_step ?_ | with_reducible refine RO.exit ?_ | with_reducible refine RO.ret ?_ | ((with_reducible refine And.intro ?sc ?_); case sc => exact side) | ((with_reducible refine br_f ?sc ?_); case sc => exact sideB) | ((with_reducible refine br_t ?sc ?_); case sc => exact sideB))
            refine And.intro (fun w5 => ?_) (fun w5 => ?_)
            · have w5' : 0 < fr.getD j 0 := hpp.1 (by simpa using w5)
              repeat ((conv => whnf); first | with_reducible refine O_step ?_ | with_reducible refine S_step ?_ | with_reducible refine D_step ?_ | with_reducible refine RO.exit ?_ | with_reducible refine RO.ret ?_ | ((with_reducible refine And.intro ?sc ?_); case sc => exact side) | ((with_reducible refine br_f ?sc ?_); case sc => exact sideB) | ((with_reducible refine br_t ?sc ?_); case sc => exact sideB))
              refine RO.same (j + 1, su + shrF .i64 32768 (L.getD ((j : Int).toNat + 0) 0), co + fr.getD ((j : Int).toNat + 0) 0 * L.getD ((j : Int).toNat + 0) 0) ⟨by show j + 1 ≤ _; omega, by show su + _ = sumN (j + 1) _; rw [j2, hsh]; simp only [sumN]; rw [if_pos w5'], by show co + _ = sumN (j + 1) _; rw [j3]; simp only [sumN]; rw [if_pos w5']; rfl, by show 0 ≤ su + _; omega, by show su + _ ≤ ((j + 1 : Nat) : Int) * _; omega, by show 0 ≤ co + _; omega, by show co + _ ≤ ((j + 1 : Nat) : Int) * _; omega⟩ (show fr.length - (j + 1) < fr.length - j by omega) (And.intro rfl (And.intro rfl (And.intro rfl (And.intro rfl (And.intro rfl (And.intro rfl (And.intro rfl (trivial)))))))) (And.intro rfl (And.intro trivial (And.intro rfl (trivial))))
            · have w5' : ¬ 0 < fr.getD j 0 := fun h => by have := hpp.2 h; simp only [decide_eq_false_iff_not] at w5; exact w5 this
              repeat ((conv => whnf); first | with_reducible refine O_step ?_ | with_reducible refine S_step ?_ | with_reducible refine D_step ?_ | with_reducible refine RO.exit ?_ | with_reducible refine RO.ret ?_ | ((with_reducible refine And.intro ?sc ?_); case sc => exact side) | ((with_reducible refine br_f ?sc ?_); case sc => exact sideB) | ((with_reducible refine br_t ?sc ?_); case sc => exact sideB))
              refine RO.same (j + 1, su, co) ⟨by show j + 1 ≤ _; omega, by show su = sumN (j + 1) _; simp only [sumN]; rw [if_neg w5', j2]; omega, by show co = sumN (j + 1) _; simp only [sumN]; rw [if_neg w5', j3]; omega, j4, by show su ≤ ((j + 1 : Nat) : Int) * _; omega, j6, by show co ≤ ((j + 1 : Nat) : Int) * _; omega⟩ (show fr.length - (j + 1) < fr.length - j by omega) (And.intro rfl (And.intro rfl (And.intro rfl (And.intro rfl (And.intro rfl (And.intro rfl (And.intro rfl (trivial)))))))) (And.intro rfl (And.intro trivial (And.intro rfl (trivial))))
        have hje : j = fr.length := by simp only [decide_eq_false_iff_not] at hj; omega
        subst hje
        repeat ((conv => whnf); first | with_reducible refine O_step ?_ | with_reducible refine S_step ?_ | with_reducible refine D_step ?_ | with_reducible refine RO.exit ?_ | with_reducible refine RO.ret ?_ | ((with_reducible refine And.intro ?sc ?_); case sc => exact side) | ((with_reducible refine br_f ?sc ?_); case sc => exact sideB) | ((with_reducible refine br_t ?sc ?_); case sc => exact sideB))
        refine And.intro (fun v1 => ?_) (fun v1 => ?_)
        · repeat ((conv => whnf); first | with_reducible refine O_step ?_ | with_reducible refine S_step ?_ | with_reducible refine D_step ?_ | with_reducible refine RO.exit ?_ | with_reducible refine RO.ret ?_ | ((with_reducible refine And.intro ?sc ?_); case sc => exact side) | ((with_reducible refine br_f ?sc ?_); case sc => exact sideB) | ((with_reducible refine br_t ?sc ?_); case sc => exact sideB))
          refine hcodes_at ?_
          repeat ((conv => whnf); first | with_reducible refine O_step ?_ | with_reducible refine S_step ?_ | with_reducible refine D_step ?_ | with_reducible refine RO.exit ?_ | with_reducible refine RO.ret ?_ | ((with_reducible refine And.intro ?sc ?_); case sc => exact side) | ((with_reducible refine br_f ?sc ?_); case sc => exact sideB) | ((with_reducible refine br_t ?sc ?_); case sc => exact sideB))
          exact ⟨true, rfl, rfl⟩
        have hn2 : 2 ≤ nF fr := by simp only [decide_eq_false_iff_not] at v1; omega
        have hsu : su = 32768 := by rw [j2]; exact ok.kraft hn2
        have hco : co = wT fr limit.toNat (2 * nF fr - 2) := by rw [j3]; exact ok.cost hn2
        repeat ((conv => whnf); first | with_reducible refine O_step ?_ | with_reducible refine S_step ?_ | with_reducible refine D_step ?_ | with_reducible refine RO.exit ?_ | with_reducible refine RO.ret ?_ | ((with_reducible refine And.intro ?sc ?_); case sc => exact side) | ((with_reducible refine br_f ?sc ?_); case sc => exact sideB) | ((with_reducible refine br_t ?sc ?_); case sc => exact sideB))
        refine And.intro (fun v2 => ?_) (fun v2 => ?_)
        · repeat ((conv => whnf); first | with_reducible refine O_step ?_ | with_reducible refine S_step ?_ | with_reducible refine D_step ?_ | with_reducible refine RO.exit ?_ | with_reducible refine RO.ret ?_ | ((with_reducible refine And.intro ?sc ?_); case sc => exact side) | ((with_reducible refine br_f ?sc ?_); case sc => exact sideB) | ((with_reducible refine br_t ?sc ?_); case sc => exact sideB))
          refine least_at (i := 0) (fr := fr) (N := limit.toNat) hlN.symm rfl rfl hbad hfr60 (by omega) (by omega) hn2 hnN ?_
          repeat ((conv => whnf); first | with_reducible refine O_step ?_ | with_reducible refine S_step ?_ | with_reducible refine D_step ?_ | with_reducible refine RO.exit ?_ | with_reducible refine RO.ret ?_ | ((with_reducible refine And.intro ?sc ?_); case sc => exact side) | ((with_reducible refine br_f ?sc ?_); case sc => exact sideB) | ((with_reducible refine br_t ?sc ?_); case sc => exact sideB))
          refine And.intro (fun v3 => ?_) (fun v3 => ?_)
          · repeat ((conv => whnf); first | with_reducible refine O_step ?_ | with_reducible refine S_step ?_ | with_reducible refine D_step ?_ | with_reducible refine RO.exit ?_ | with_reducible refine RO.ret ?_ | ((with_reducible refine And.intro ?sc ?_); case sc => exact side) | ((with_reducible refine br_f ?sc ?_); case sc => exact sideB) | ((with_reducible refine br_t ?sc ?_); case sc => exact sideB))
            refine hcodes_at ?_
            repeat ((conv => whnf); first | with_reducible refine O_step ?_ | with_reducible refine S_step ?_ | with_reducible refine D_step ?_ | with_reducible refine RO.exit ?_ | with_reducible refine RO.ret ?_ | ((with_reducible refine And.intro ?sc ?_); case sc => exact side) | ((with_reducible refine br_f ?sc ?_); case sc => exact sideB) | ((with_reducible refine br_t ?sc ?_); case sc => exact sideB))
            exact ⟨true, rfl, rfl⟩
          · exfalso; simp [hco] at v3
        · exfalso; simp [hsu] at v2
  · repeat ((conv => whnf); first | with_reducible refine O_step ?_ | with_reducible refine S_step ?_ | with_reducible refine D_step ?_ | with_reducible refine RO.exit ?_ | with_reducible refine RO.ret ?_ | ((with_reducible refine And.intro ?sc ?_); case sc => exact side) | ((with_reducible refine br_f ?sc ?_); case sc => exact sideB) | ((with_reducible refine br_t ?sc ?_); case sc => exact sideB))
    refine And.intro (fun h3 => ?_) (fun h3 => ?_)
    · repeat ((conv => whnf); first | with_reducible refine O_step ?_ | with_reducible refine S_step ?_ | with_reducible refine D_step ?_ | with_reducible refine RO.exit ?_ | with_reducible refine RO.ret ?_ | ((with_reducible refine And.intro ?sc ?_); case sc => exact side) | ((with_reducible refine br_f ?sc ?_); case sc => exact sideB) | ((with_reducible refine br_t ?sc ?_); case sc => exact sideB))
      exact ⟨true, rfl, rfl⟩
    · have hl : fr.length ≤ 2000 := by simp only [decide_eq_false_iff_not] at h3; omega
      have hsm : fr.length ≤ 60 ∨ 320 < fr.length := .inl (by simp only [decide_eq_false_iff_not] at h1; omega)
      repeat ((conv => whnf); first | with_reducible refine O_step ?_ | with_reducible refine S_step ?_ | with_reducible refine D_step ?_ | with_reducible refine RO.exit ?_ | with_reducible refine RO.ret ?_ | ((with_reducible refine And.intro ?sc ?_); case sc => exact side) | ((with_reducible refine br_f ?sc ?_); case sc => exact sideB) | ((with_reducible refine br_t ?sc ?_); case sc => exact sideB))
      intro zs hzs
      obtain rfl : fr = zs := by rw [hzs]; simp
      repeat ((conv => whnf); first | with_reducible refine O_step ?_ | with_reducible refine S_step ?_ | with_reducible refine D_step ?_ | with_reducible refine RO.exit ?_ | with_reducible refine RO.ret ?_ | ((with_reducible refine And.intro ?sc ?_); case sc => exact side) | ((with_reducible refine br_f ?sc ?_); case sc => exact sideB) | ((with_reducible refine br_t ?sc ?_); case sc => exact sideB))
      intro c1 hc1
      have hcs := lengthsF_three fr limit
      generalize hLL : lengthsF fr limit = LL at hcs
      obtain ⟨L, e⟩ := LL
      simp only at hcs
      repeat ((conv => whnf); first | with_reducible refine O_step ?_ | with_reducible refine S_step ?_ | with_reducible refine D_step ?_ | with_reducible refine RO.exit ?_ | with_reducible refine RO.ret ?_ | ((with_reducible refine And.intro ?sc ?_); case sc => exact side) | ((with_reducible refine br_f ?sc ?_); case sc => exact sideB) | ((with_reducible refine br_t ?sc ?_); case sc => exact sideB))
      refine lengths_at (i := 1) (fr := fr) rfl rfl (by omega) fun g2 c2 hc2 => ?_
      rw [hLL]
      repeat ((conv => whnf); first | with_reducible refine O_step ?_ | with_reducible refine S_step ?_ | with_reducible refine D_step ?_ | with_reducible refine RO.exit ?_ | with_reducible refine RO.ret ?_ | ((with_reducible refine And.intro ?sc ?_); case sc => exact side) | ((with_reducible refine br_f ?sc ?_); case sc => exact sideB) | ((with_reducible refine br_t ?sc ?_); case sc => exact sideB))
      refine WO.go (σ := Nat) (fun i => i ≤ fr.length) (fun i => fr.length - i)
        (fun i => [(0, .sl 0 0 0 fr.length c), (1, .int .i64 limit), (5, .sl 1 0 0 fr.length c1), (6, .sl 2 g2 0 L.length c2), (7, .int .i64 e), (8, .int .i64 (i : Int))])
        (fun _ => [.one false 0 (.ints .i64 fr c), .one true 0 (.ints .i64 fr c1), .one true g2 (.ints .u8 L c2)]) 0 tb_ok mixed (by kernel_rfl) (Nat.zero_le _) (And.intro rfl (And.intro rfl (And.intro rfl (And.intro rfl (And.intro rfl (And.intro rfl (trivial))))))) (And.intro rfl (And.intro rfl (And.intro rfl (trivial)))) (fun _ => rfl) (fun _ => rfl) (fun _ => ⟨trivial, trivial, trivial, trivial⟩) ?_
      intro i i1 d
      have i1 : i ≤ fr.length := i1
      repeat ((conv => whnf); first | with_reducible refine O_step ?_ | with_reducible refine S_step ?_ | with_reducible refine D_step ?_ | with_reducible refine RO.exit ?_ | with_reducible refine RO.ret ?_ | ((with_reducible refine And.intro ?sc ?_); case sc => exact side) | ((with_reducible refine br_f ?sc ?_); case sc => exact sideB) | ((with_reducible refine br_t ?sc ?_); case sc => exact sideB))
      refine And.intro (fun hi => ?_) (fun hi => ?_)
      · have hil : i < fr.length := by simp only [decide_eq_true_eq] at hi; omega
        repeat ((conv => whnf); first | with_reducible refine O_step ?_ | with_reducible refine S_step ?_ | with_reducible refine D_step ?_ | with_reducible refine RO.exit ?_ | with_reducible refine RO.ret ?_ | ((with_reducible refine And.intro ?sc ?_); case sc => exact side) | ((with_reducible refine br_f ?sc ?_); case sc => exact sideB) | ((with_reducible refine br_t ?sc ?_); case sc => exact sideB))
        refine RO.same (i + 1) (by show i + 1 ≤ _; omega) (show fr.length - (i + 1) < fr.length - i by omega) (And.intro rfl (And.intro rfl (And.intro rfl (And.intro rfl (And.intro rfl (And.intro rfl (trivial))))))) (And.intro rfl (And.intro rfl (And.intro rfl (trivial))))
      repeat ((conv => whnf); first | with_reducible refine O_step ?_ | with_reducible refine S_step ?_ | with_reducible refine D_step ?_ | with_reducible refine RO.exit ?_ | with_reducible refine RO.ret ?_ | ((with_reducible refine And.intro ?sc ?_); case sc => exact side) | ((with_reducible refine br_f ?sc ?_); case sc => exact sideB) | ((with_reducible refine br_t ?sc ?_); case sc => exact sideB))
      refine used_at (i := 0) (fr := fr) rfl rfl hl ?_
      repeat ((conv => whnf); first | with_reducible refine O_step ?_ | with_reducible refine S_step ?_ | with_reducible refine D_step ?_ | with_reducible refine RO.exit ?_ | with_reducible refine RO.ret ?_ | ((with_reducible refine And.intro ?sc ?_); case sc => exact side) | ((with_reducible refine br_f ?sc ?_); case sc => exact sideB) | ((with_reducible refine br_t ?sc ?_); case sc => exact sideB))
      refine And.intro (fun x1 => ?_) (fun x1 => ?_)
      · have hA : L.length = 0 ∧ e = 1 := by
          rcases hcs with h | h
          · exact ⟨h.1, h.2.1⟩
          · exfalso; simp only [decide_eq_true_eq] at x1; omega
        repeat ((conv => whnf); first | with_reducible refine O_step ?_ | with_reducible refine S_step ?_ | with_reducible refine D_step ?_ | with_reducible refine RO.exit ?_ | with_reducible refine RO.ret ?_ | ((with_reducible refine And.intro ?sc ?_); case sc => exact side) | ((with_reducible refine br_f ?sc ?_); case sc => exact sideB) | ((with_reducible refine br_t ?sc ?_); case sc => exact sideB))
        refine And.intro (fun y1 => ?_) (fun y1 => ?_)
        · repeat ((conv => whnf); first | with_reducible refine O_step ?_ | with_reducible refine S_step ?_ | with_reducible refine D_step ?_ | with_reducible refine RO.exit ?_ | with_reducible refine RO.ret ?_ | ((with_reducible refine And.intro ?sc ?_); case sc => exact side) | ((with_reducible refine br_f ?sc ?_); case sc => exact sideB) | ((with_reducible refine br_t ?sc ?_); case sc => exact sideB))
          refine And.intro (fun y2 => ?_) (fun y2 => ?_)
          · repeat ((conv => whnf); first | with_reducible refine O_step ?_ | with_reducible refine S_step ?_ | with_reducible refine D_step ?_ | with_reducible refine RO.exit ?_ | with_reducible refine RO.ret ?_ | ((with_reducible refine And.intro ?sc ?_); case sc => exact side) | ((with_reducible refine br_f ?sc ?_); case sc => exact sideB) | ((with_reducible refine br_t ?sc ?_); case sc => exact sideB))
            refine hcodes_at ?_
            repeat ((conv => whnf); first | with_reducible refine O_step ?_ | with_reducible refine S_step ?_ | with_reducible refine D_step ?_ | with_reducible refine RO.exit ?_ | with_reducible refine RO.ret ?_ | ((with_reducible refine And.intro ?sc ?_); case sc => exact side) | ((with_reducible refine br_f ?sc ?_); case sc => exact sideB) | ((with_reducible refine br_t ?sc ?_); case sc => exact sideB))
            exact ⟨true, rfl, rfl⟩
          · exfalso; simp [hA.2] at y2
        · exfalso; simp [hA.1] at y1
      repeat ((conv => whnf); first | with_reducible refine O_step ?_ | with_reducible refine S_step ?_ | with_reducible refine D_step ?_ | with_reducible refine RO.exit ?_ | with_reducible refine RO.ret ?_ | ((with_reducible refine And.intro ?sc ?_); case sc => exact side) | ((with_reducible refine br_f ?sc ?_); case sc => exact sideB) | ((with_reducible refine br_t ?sc ?_); case sc => exact sideB))
      refine And.intro (fun x2 => ?_) (fun x2 => ?_)
      · have hA : L.length = 0 ∧ e = 1 := by
          rcases hcs with h | h
          · exact ⟨h.1, h.2.1⟩
          · exfalso; simp only [decide_eq_true_eq] at x2; omega
        repeat ((conv => whnf); first | with_reducible refine O_step ?_ | with_reducible refine S_step ?_ | with_reducible refine D_step ?_ | with_reducible refine RO.exit ?_ | with_reducible refine RO.ret ?_ | ((with_reducible refine And.intro ?sc ?_); case sc => exact side) | ((with_reducible refine br_f ?sc ?_); case sc => exact sideB) | ((with_reducible refine br_t ?sc ?_); case sc => exact sideB))
        refine And.intro (fun y1 => ?_) (fun y1 => ?_)
        · repeat ((conv => whnf); first | with_reducible refine O_step ?_ | with_reducible refine S_step ?_ | with_reducible refine D_step ?_ | with_reducible refine RO.exit ?_ | with_reducible refine RO.ret ?_ | ((with_reducible refine And.intro ?sc ?_); case sc => exact side) | ((with_reducible refine br_f ?sc ?_); case sc => exact sideB) | ((with_reducible refine br_t ?sc ?_); case sc => exact sideB))
          refine And.intro (fun y2 => ?_) (fun y2 => ?_)
          · repeat ((conv => whnf); first | with_reducible refine O_step ?_ | with_reducible refine S_step ?_ | with_reducible refine D_step ?_ | with_reducible refine RO.exit ?_ | with_reducible refine RO.ret ?_ | ((with_reducible refine And.intro ?sc ?_); case sc => exact side) | ((with_reducible refine br_f ?sc ?_); case sc => exact sideB) | ((with_reducible refine br_t ?sc ?_); case sc => exact sideB))
            refine hcodes_at ?_
            repeat ((conv => whnf); first | with_reducible refine O_step ?_ | with_reducible refine S_step ?_ | with_reducible refine D_step ?_ | with_reducible refine RO.exit ?_ | with_reducible refine RO.ret ?_ | ((with_reducible refine And.intro ?sc ?_); case sc => exact side) | ((with_reducible refine br_f ?sc ?_); case sc => exact sideB) | ((with_reducible refine br_t ?sc ?_); case sc => exact sideB))
            exact ⟨true, rfl, rfl⟩
          · exfalso; simp [hA.2] at y2
        · exfalso; simp [hA.1] at y1
      repeat ((conv => whnf); first | with_reducible refine O_step ?_ | with_reducible refine S_step ?_ | with_reducible refine D_step ?_ | with_reducible refine RO.exit ?_ | with_reducible refine RO.ret ?_ | ((with_reducible refine And.intro ?sc ?_); case sc => exact side) | ((with_reducible refine br_f ?sc ?_); case sc => exact sideB) | ((with_reducible refine br_t ?sc ?_); case sc => exact sideB))
      refine And.intro (fun x3 => ?_) (fun x3 => ?_)
      · have hA : L.length = 0 ∧ e = 1 := by
          rcases hcs with h | h
          · exact ⟨h.1, h.2.1⟩
          · exfalso; rw [h.2.2.1] at x3; cases x3
        repeat ((conv => whnf); first | with_reducible refine O_step ?_ | with_reducible refine S_step ?_ | with_reducible refine D_step ?_ | with_reducible refine RO.exit ?_ | with_reducible refine RO.ret ?_ | ((with_reducible refine And.intro ?sc ?_); case sc => exact side) | ((with_reducible refine br_f ?sc ?_); case sc => exact sideB) | ((with_reducible refine br_t ?sc ?_); case sc => exact sideB))
        refine And.intro (fun y1 => ?_) (fun y1 => ?_)
        · repeat ((conv => whnf); first | with_reducible refine O_step ?_ | with_reducible refine S_step ?_ | with_reducible refine D_step ?_ | with_reducible refine RO.exit ?_ | with_reducible refine RO.ret ?_ | ((with_reducible refine And.intro ?sc ?_); case sc => exact side) | ((with_reducible refine br_f ?sc ?_); case sc => exact sideB) | ((with_reducible refine br_t ?sc ?_); case sc => exact sideB))
          refine And.intro (fun y2 => ?_) (fun y2 => ?_)
          · repeat ((conv => whnf); first | with_reducible refine O_step ?_ | with_reducible refine S_step ?_ | with_reducible refine D_step ?_ | with_reducible refine RO.exit ?_ | with_reducible refine RO.ret ?_ | ((with_reducible refine And.intro ?sc ?_); case sc => exact side) | ((with_reducible refine br_f ?sc ?_); case sc => exact sideB) | ((with_reducible refine br_t ?sc ?_); case sc => exact sideB))
            refine hcodes_at ?_
            repeat ((conv => whnf); first | with_reducible refine O_step ?_ | with_reducible refine S_step ?_ | with_reducible refine D_step ?_ | with_reducible refine RO.exit ?_ | with_reducible refine RO.ret ?_ | ((with_reducible refine And.intro ?sc ?_); case sc => exact side) | ((with_reducible refine br_f ?sc ?_); case sc => exact sideB) | ((with_reducible refine br_t ?sc ?_); case sc => exact sideB))
            exact ⟨true, rfl, rfl⟩
          · exfalso; simp [hA.2] at y2
        · exfalso; simp [hA.1] at y1
      have hcs2 : 1 ≤ limit ∧ limit ≤ 15 ∧ fr.length ≤ 320 ∧ fr.any badI = false ∧ ((L.length = 0 ∧ e = 60 ∧ 2 ^ limit.toNat < nF fr) ∨ (e = 0 ∧ nF fr ≤ 2 ^ limit.toNat ∧ LensOk fr limit.toNat L)) := by
        rcases hcs with h | h
        · exfalso
          simp only [decide_eq_false_iff_not] at x1 x2
          rcases h.2.2 with h | h | h
          · omega
          · omega
          · rw [h] at x3; cases x3
        · exact ⟨h.1, h.2.1, h.2.2.2.1, h.2.2.2.2.1, h.2.2.2.2.2⟩
      clear hcs x3
      obtain ⟨l1, l15, h320, hbad, hcs⟩ := hcs2
      have hlN : ((limit.toNat : Nat) : Int) = limit := by omega
      have hshl : shlF .i64 1 limit = ((2 ^ limit.toNat : Nat) : Int) := by rw [← shl_small limit.toNat (by omega), hlN]
      have hfr60 : fr.length ≤ 60 := by omega
      repeat ((conv => whnf); first | with_reducible refine O_step ?_ | with_reducible refine S_step ?_ | with_reducible refine D_step ?_ | with_reducible refine RO.exit ?_ | with_reducible refine RO.ret ?_ | ((with_reducible refine And.intro ?sc ?_); case sc => exact side) | ((with_reducible refine br_f ?sc ?_); case sc => exact sideB) | ((with_reducible refine br_t ?sc ?_); case sc => exact sideB))
      refine And.intro (fun x4 => ?_) (fun x4 => ?_)
      · have hA : L.length = 0 ∧ e = 60 := by
          rcases hcs with h | h
          · exact ⟨h.1, h.2.1⟩
          · exfalso; rw [hshl] at x4; simp only [decide_eq_true_eq] at x4; have := h.2.1; omega
        repeat ((conv => whnf); first | with_reducible refine O_step ?_ | with_reducible refine S_step ?_ | with_reducible refine D_step ?_ | with_reducible refine RO.exit ?_ | with_reducible refine RO.ret ?_ | ((with_reducible refine And.intro ?sc ?_); case sc => exact side) | ((with_reducible refine br_f ?sc ?_); case sc => exact sideB) | ((with_reducible refine br_t ?sc ?_); case sc => exact sideB))
        refine And.intro (fun y1 => ?_) (fun y1 => ?_)
        · repeat ((conv => whnf); first | with_reducible refine O_step ?_ | with_reducible refine S_step ?_ | with_reducible refine D_step ?_ | with_reducible refine RO.exit ?_ | with_reducible refine RO.ret ?_ | ((with_reducible refine And.intro ?sc ?_); case sc => exact side) | ((with_reducible refine br_f ?sc ?_); case sc => exact sideB) | ((with_reducible refine br_t ?sc ?_); case sc => exact sideB))
          refine And.intro (fun y2 => ?_) (fun y2 => ?_)
          · repeat ((conv => whnf); first | with_reducible refine O_step ?_ | with_reducible refine S_step ?_ | with_reducible refine D_step ?_ | with_reducible refine RO.exit ?_ | with_reducible refine RO.ret ?_ | ((with_reducible refine And.intro ?sc ?_); case sc => exact side) | ((with_reducible refine br_f ?sc ?_); case sc => exact sideB) | ((with_reducible refine br_t ?sc ?_); case sc => exact sideB))
            refine hcodes_at ?_
            repeat ((conv => whnf); first | with_reducible refine O_step ?_ | with_reducible refine S_step ?_ | with_reducible refine D_step ?_ | with_reducible refine RO.exit ?_ | with_reducible refine RO.ret ?_ | ((with_reducible refine And.intro ?sc ?_); case sc => exact side) | ((with_reducible refine br_f ?sc ?_); case sc => exact sideB) | ((with_reducible refine br_t ?sc ?_); case sc => exact sideB))
            exact ⟨true, rfl, rfl⟩
          · exfalso; simp [hA.2] at y2
        · exfalso; simp [hA.1] at y1
      have hcs3 : e = 0 ∧ nF fr ≤ 2 ^ limit.toNat ∧ LensOk fr limit.toNat L := by
        rcases hcs with h | h
        · exfalso; rw [hshl] at x4; simp only [decide_eq_false_iff_not] at x4; have := h.2.2; omega
        · exact h
      clear hcs
      obtain ⟨he, hnN, ok⟩ := hcs3
      have hLl := ok.len
      repeat ((conv => whnf); first | with_reducible refine O_step ?_ | with_reducible refine S_step ?_ | with_reducible refine D_step ?_ | with_reducible refine RO.exit ?_ | with_reducible refine RO.ret ?_ | ((with_reducible refine And.intro ?sc ?_); case sc => exact side) | ((with_reducible refine br_f ?sc ?_); case sc => exact sideB) | ((with_reducible refine br_t ?sc ?_); case sc => exact sideB))
      refine And.intro (fun x5 => ?_) (fun x5 => ?_)
      · exfalso; simp [he] at x5
      repeat ((conv => whnf); first | with_reducible refine O_step ?_ | with_reducible refine S_step ?_ | with_reducible refine D_step ?_ | with_reducible refine RO.exit ?_ | with_reducible refine RO.ret ?_ | ((with_reducible refine And.intro ?sc ?_); case sc => exact side) | ((with_reducible refine br_f ?sc ?_); case sc => exact sideB) | ((with_reducible refine br_t ?sc ?_); case sc => exact sideB))
      refine And.intro (fun x6 => ?_) (fun x6 => ?_)
      · exfalso; simp [hLl] at x6
      repeat ((conv => whnf); first | with_reducible refine O_step ?_ | with_reducible refine S_step ?_ | with_reducible refine D_step ?_ | with_reducible refine RO.exit ?_ | with_reducible refine RO.ret ?_ | ((with_reducible refine And.intro ?sc ?_); case sc => exact side) | ((with_reducible refine br_f ?sc ?_); case sc => exact sideB) | ((with_reducible refine br_t ?sc ?_); case sc => exact sideB))
      have hfb : ∀ j, j < fr.length → 0 ≤ fr.getD j 0 ∧ fr.getD j 0 ≤ 1099511627776 := fun j hj => any_badI hbad (getD_memI hj)
      have hLb : ∀ j, j < fr.length → 0 ≤ L.getD j 0 ∧ L.getD j 0 ≤ limit := fun j hj => by have := ok.rng hj; omega
      refine WO.go (σ := Nat × Int × Int) (fun s => s.1 ≤ fr.length ∧ s.2.1 = sumN s.1 (fun j => if 0 < fr.getD j 0 then 2 ^ (15 - (L.getD j 0).toNat) else 0) ∧ s.2.2 = sumN s.1 (fun j => if 0 < fr.getD j 0 then fr.getD j 0 * L.getD j 0 else 0) ∧ 0 ≤ s.2.1 ∧ s.2.1 ≤ s.1 * 32768 ∧ 0 ≤ s.2.2 ∧ s.2.2 ≤ s.1 * 17592186044416) (fun s => fr.length - s.1)
        (fun s => [(0, .sl 0 0 0 fr.length c), (1, .int .i64 limit), (6, .sl 2 g2 0 L.length c2), (9, .int .i64 (nF fr : Int)), (11, .int .i64 s.2.1), (12, .int .i64 s.2.2), (13, .int .i64 (s.1 : Int))])
        (fun _ => [.one false 0 (.ints .i64 fr c), .gone, .one true g2 (.ints .u8 L c2)]) (0, 0, 0) tb_ok mixed (by kernel_rfl) ⟨Nat.zero_le _, rfl, rfl, by decide, by decide, by decide, by decide⟩ (And.intro rfl (And.intro rfl (And.intro rfl (And.intro rfl (And.intro rfl (And.intro rfl (And.intro rfl (trivial)))))))) (And.intro rfl (And.intro trivial (And.intro rfl (trivial)))) (fun _ => rfl) (fun _ => rfl) (fun _ => ⟨trivial, trivial, trivial, trivial⟩) ?_
      rintro ⟨j, su, co⟩ ⟨j1, j2, j3, j4, j5, j6, j7⟩ d1
      simp only at j1 j2 j3 j4 j5 j6 j7
      repeat ((conv => whnf); first | with_reducible refine O_step ?_ | with_reducible refine S_step ?_ | with_reducible refine D_step ?_ | with_reducible refine RO.exit ?_ | with_reducible refine RO.ret ?_ | ((with_reducible refine And.intro ?sc ?_); case sc => exact side) | ((with_reducible refine br_f ?sc ?_); case sc => exact sideB) | ((with_reducible refine br_t ?sc ?_); case sc => exact sideB))
      refine And.intro (fun hj => ?_) (fun hj => ?_)
      · have hjl : j < fr.length := by simp only [decide_eq_true_eq] at hj; omega
        have hjL : j < L.length := by omega
        have b1 : 0 ≤ fr.getD ((j : Int).toNat + 0) 0 ∧ fr.getD ((j : Int).toNat + 0) 0 ≤ 1099511627776 := hfb j hjl
        have b2 : 0 ≤ L.getD ((j : Int).toNat + 0) 0 ∧ L.getD ((j : Int).toNat + 0) 0 ≤ limit := hLb j hjl
        have hpp : 0 < L.getD j 0 ↔ 0 < fr.getD j 0 := by
          constructor
          · intro h
            rcases Int.lt_or_le 0 (fr.getD j 0) with h2 | h2
            · exact h2
            · have := ok.zero j hjl (by omega); omega
          · intro h
            have := ok.pos j hjl h; omega
        have hsh : shrF .i64 32768 (L.getD ((j : Int).toNat + 0) 0) = 2 ^ (15 - (L.getD j 0).toNat) := shr_pow (by omega) (by have := b2.2; omega)
        have hsb : 0 ≤ shrF .i64 32768 (L.getD ((j : Int).toNat + 0) 0) ∧ shrF .i64 32768 (L.getD ((j : Int).toNat + 0) 0) ≤ 32768 := by
          rw [hsh]
          exact ⟨Int.le_of_lt (pow2_pos _), by have := pow2_le (show 15 - (L.getD j 0).toNat ≤ 15 by omega); simpa using this⟩
        have b3 : 0 ≤ fr.getD ((j : Int).toNat + 0) 0 * L.getD ((j : Int).toNat + 0) 0 := Int.mul_nonneg b1.1 b2.1
        have b4 : fr.getD ((j : Int).toNat + 0) 0 * L.getD ((j : Int).toNat + 0) 0 ≤ 1099511627776 * 15 := Int.mul_le_mul b1.2 (by omega) b2.1 (by decide)
        repeat ((conv => whnf); first | with_reducible refine O_step ?_ | with_reducible refine S_step ?_ | with_reducible refine D_step ?_ | with_reducible refine RO.exit ?_ | with_reducible refine RO.ret ?_ | ((with_reducible refine And.intro ?sc ?_); case sc => exact side) | ((with_reducible refine br_f ?sc ?_); case sc => exact sideB) | ((with_reducible refine br_t ?sc ?_); case sc => exact sideB))
        refine And.intro (fun w1 => ?_) (fun w1 => ?_)
        · exfalso
          have w1' : (!(decide (0 < L.getD ((j : Int).toNat + 0) 0) == decide (0 < fr.getD ((j : Int).toNat + 0) 0))) = true := w1
          rw [show decide (0 < L.getD ((j : Int).toNat + 0) 0) = decide (0 < fr.getD ((j : Int).toNat + 0) 0) from decide_eq_decide.2 hpp, beq_self_eq_true] at w1'
          cases w1'
        repeat ((conv => whnf); first | with_reducible refine O_step ?_ | with_reducible refine S_step ?_ | with_reducible refine D_step ?_ | with_reducible refine RO.exit ?_ | with_reducible refine RO.ret ?_ | ((with_reducible refine And.intro ?sc ?_); case sc => exact side) | ((with_reducible refine br_f ?sc ?_); case sc => exact sideB) | ((with_reducible refine br_t ?sc ?_); case sc => exact sideB))
        refine And.intro (fun w2 => ?_) (fun w2 => ?_)
        · exfalso; simp only [decide_eq_true_eq] at w2; omega
        repeat ((conv => whnf); first | with_reducible refine O_step ?_ | with_reducible refine S_step ?_ | with_reducible refine D_step ?_ | with_reducible refine RO.exit ?_ | with_reducible refine RO.ret ?_ | ((with_reducible refine And.intro ?sc ?_); case sc => exact side) | ((with_reducible refine br_f ?sc ?_); case sc => exact sideB) | ((with_reducible refine br_t ?sc ?_); case sc => exact sideB))
        refine And.intro (fun w3 => ?_) (fun w3 => ?_)
        · repeat ((conv => whnf); first | with_reducible refine O_step ?_ | with_reducible refine S_step ?_ | with_reducible refine D_step ?_ | with_reducible refine RO.exit ?_ | with_reducible refine RO.ret ?_ | ((with_reducible refine And.intro ?sc ?_); case sc => exact side) | ((with_reducible refine br_f ?sc ?_); case sc => exact sideB) | ((with_reducible refine br_t ?sc ?_); case sc => exact sideB))
          refine And.intro (fun w4 => ?_) (fun w4 => ?_)
          · exfalso
            simp only [decide_eq_true_eq] at w3 w4
            have := ok.one (by omega) j
            exact absurd w4 (Int.not_lt.2 this)
          repeat ((conv => whnf); first | with_reducible refine O_step ?_ | with_reducible refine S_step ?_ | with_reducible refine D_step ?_ | with_reducible refine RO.exit ?_ | with_reducible refine RO.ret ?_ | ((with_reducible refine And.intro ?sc ?_); case sc => exact side) | ((with_reducible refine br_f ?sc ?_); case sc => exact sideB) | ((with_reducible refine br_t ?sc ?_); case sc => exact sideB))
          refine And.intro (fun w5 => ?_) (fun w5 => ?_)
          · have w5' : 0 < fr.getD j 0 := hpp.1 (by simpa using w5)
            repeat ((conv => whnf); first | with_reducible refine O_step ?_ | with_reducible refine S_step ?_ | with_reducible refine D_step ?_ | with_reducible refine RO.exit ?_ | with_reducible refine RO.ret ?_ | ((with_reducible refine And.intro ?sc ?_); case sc => exact side) | ((with_reducible refine br_f ?sc ?_); case sc => exact sideB) | ((with_reducible refine br_t ?sc ?_); case sc => exact sideB))
            refine RO.same (j + 1, su + shrF .i64 32768 (L.getD ((j : Int).toNat + 0) 0), co + fr.getD ((j : Int).toNat + 0) 0 * L.getD ((j : Int).toNat + 0) 0) ⟨by show j + 1 ≤ _; omega, by show su + _ = sumN (j + 1) _; rw [j2, hsh]; simp only [sumN]; rw [if_pos w5'], by show co + _ = sumN (j + 1) _; rw [j3]; simp only [sumN]; rw [if_pos w5']; rfl, by show 0 ≤ su + _; omega, by show su + _ ≤ ((j + 1 : Nat) : Int) * _; omega, by show 0 ≤ co + _; omega, by show co + _ ≤ ((j + 1 : Nat) : Int) * _; omega⟩ (show fr.length - (j + 1) < fr.length - j by omega) (And.intro rfl (And.intro rfl (And.intro rfl (And.intro rfl (And.intro rfl (And.intro rfl (And.intro rfl (trivial)))))))) (And.intro rfl (And.intro trivial (And.intro rfl (trivial))))
          · have w5' : ¬ 0 < fr.getD j 0 := fun h => by have := hpp.2 h; simp only [decide_eq_false_iff_not] at w5; exact w5 this
            repeat ((conv => whnf); first | with_reducible refine O_step ?_ | with_reducible refine S_step ?_ | with_reducible refine D_step ?_ | with_reducible refine RO.exit ?_ | with_reducible refine RO.ret ?_ | ((with_reducible refine And.intro ?sc ?_); case sc => exact side) | ((with_reducible refine br_f ?sc ?_); case sc => exact sideB) | ((with_reducible refine br_t ?sc ?_); case sc => exact sideB))
            refine RO.same (j + 1, su, co) ⟨by show j + 1 ≤ _; omega, by show su = sumN (j + 1) _; simp only [sumN]; rw [if_neg w5', j2]; omega, by show co = sumN (j + 1) _; simp only [sumN]; rw [if_neg w5', j3]; omega, j4, by show su ≤ ((j + 1 : Nat) : Int) * _; omega, j6, by show co ≤ ((j + 1 : Nat) : Int) * _; omega⟩ (show fr.length - (j + 1) < fr.length - j by omega) (And.intro rfl (And.intro rfl (And.intro rfl (And.intro rfl (And.intro rfl (And.intro rfl (And.intro rfl (trivial)))))))) (And.intro rfl (And.intro trivial (And.intro rfl (trivial))))
        · repeat ((conv => whnf); first | with_reducible refine O_step ?_ | with_reducible refine S_step ?_ | with_reducible refine D_step ?_ | with_reducible refine RO.exit ?_ | with_reducible refine RO.ret ?_ | ((with_reducible refine And.intro ?sc ?_); case sc => exact side) | ((with_reducible refine br_f ?sc ?_); case sc => exact sideB) | ((with_reducible refine br_t ?sc ?_); case sc => exact sideB))
          refine And.intro (fun w5 => ?_) (fun w5 => ?_)
          · have w5' : 0 < fr.getD j 0 := hpp.1 (by simpa using w5)
            repeat ((conv => whnf); first | with_reducible refine O_step ?_ | with_reducible refine S_step ?_ | with_reducible refine D_step ?_ | with_reducible refine RO.exit ?_ | with_reducible refine RO.ret ?_ | ((with_reducible refine And.intro ?sc ?_); case sc => exact side) | ((with_reducible refine br_f ?sc ?_); case sc => exact sideB) | ((with_reducible refine br_t ?sc ?_); case sc => exact sideB))
            refine RO.same (j + 1, su + shrF .i64 32768 (L.getD ((j : Int).toNat + 0) 0), co + fr.getD ((j : Int).toNat + 0) 0 * L.getD ((j : Int).toNat + 0) 0) ⟨by show j + 1 ≤ _; omega, by show su + _ = sumN (j + 1) _; rw [j2, hsh]; simp only [sumN]; rw [if_pos w5'], by show co + _ = sumN (j + 1) _; rw [j3]; simp only [sumN]; rw [if_pos w5']; rfl, by show 0 ≤ su + _; omega, by show su + _ ≤ ((j + 1 : Nat) : Int) * _; omega, by show 0 ≤ co + _; omega, by show co + _ ≤ ((j + 1 : Nat) : Int) * _; omega⟩ (show fr.length - (j + 1) < fr.length - j by omega) (And.intro rfl (And.intro rfl (And.intro rfl (And.intro rfl (And.intro rfl (And.intro rfl (And.intro rfl (trivial)))))))) (And.intro rfl (And.intro trivial (And.intro rfl (trivial))))
          · have w5' : ¬ 0 < fr.getD j 0 := fun h => by have := hpp.2 h; simp only [decide_eq_false_iff_not] at w5; exact w5 this
            repeat ((conv => whnf); first | with_reducible refine O_step ?_ | with_reducible refine S_step ?_ | with_reducible refine D_step ?_ | with_reducible refine RO.exit ?_ | with_reducible refine RO.ret ?_ | ((with_reducible refine And.intro ?sc ?_); case sc => exact side) | ((with_reducible refine br_f ?sc ?_); case sc => exact sideB) | ((with_reducible refine br_t ?sc ?_); case sc => exact sideB))
            refine RO.same (j + 1, su, co) ⟨by show j + 1 ≤ _; omega, by show su = sumN (j + 1) _; simp only [sumN]; rw [if_neg w5', j2]; omega, by show co = sumN (j + 1) _; simp only [sumN]; rw [if_neg w5', j3]; omega, j4, by show su ≤ ((j + 1 : Nat) : Int) * _; omega, j6, by show co ≤ ((j + 1 : Nat) : Int) * _; omega⟩ (show fr.length - (j + 1) < fr.length - j by omega) (And.intro rfl (And.intro rfl (And.intro rfl (And.intro rfl (And.intro rfl (And.intro rfl (And.intro rfl (trivial)))))))) (And.intro rfl (And.intro trivial (And.intro rfl (trivial))))
      have hje : j = fr.length := by simp only [decide_eq_false_iff_not] at hj; omega
      subst hje
      repeat ((conv => whnf); first | with_reducible refine O_step ?_ | with_reducible refine S_step ?_ | with_reducible refine D_step ?_ | with_reducible refine RO.exit ?_ | with_reducible refine RO.ret ?_ | ((with_reducible refine And.intro ?sc ?_); case sc => exact side) | ((with_reducible refine br_f ?sc ?_); case sc => exact sideB) | ((with_reducible refine br_t ?sc ?_); case sc => exact sideB))
      refine And.intro (fun v1 => ?_) (fun v1 => ?_)
      · repeat ((conv => whnf); first | with_reducible refine O_step ?_ | with_reducible refine S_step ?_ | with_reducible refine D_step ?_ | with_reducible refine RO.exit ?_ | with_reducible refine RO.ret ?_ | ((with_reducible refine And.intro ?sc ?_); case sc => exact side) | ((with_reducible refine br_f ?sc ?_); case sc => exact sideB) | ((with_reducible refine br_t ?sc ?_); case sc => exact sideB))
        refine hcodes_at ?_
        repeat ((conv => whnf); first | with_reducible refine O_step ?_ | with_reducible refine S_step ?_ | with_reducible refine D_step ?_ | with_reducible refine RO.exit ?_ | with_reducible refine RO.ret ?_ | ((with_reducible refine And.intro ?sc ?_); case sc => exact side) | ((with_reducible refine br_f ?sc ?_); case sc => exact sideB) | ((with_reducible refine br_t ?sc ?_); case sc => exact sideB))
        exact ⟨true, rfl, rfl⟩
      have hn2 : 2 ≤ nF fr := by simp only [decide_eq_false_iff_not] at v1; omega
      have hsu : su = 32768 := by rw [j2]; exact ok.kraft hn2
      have hco : co = wT fr limit.toNat (2 * nF fr - 2) := by rw [j3]; exact ok.cost hn2
      repeat ((conv => whnf); first | with_reducible refine O_step ?_ | with_reducible refine S_step ?_ | with_reducible refine D_step ?_ | with_reducible refine RO.exit ?_ | with_reducible refine RO.ret ?_ | ((with_reducible refine And.intro ?sc ?_); case sc => exact side) | ((with_reducible refine br_f ?sc ?_); case sc => exact sideB) | ((with_reducible refine br_t ?sc ?_); case sc => exact sideB))
      refine And.intro (fun v2 => ?_) (fun v2 => ?_)
      · repeat ((conv => whnf); first | with_reducible refine O_step ?_ | with_reducible refine S_step ?_ | with_reducible refine D_step ?_ | with_reducible refine RO.exit ?_ | with_reducible refine RO.ret ?_ | ((with_reducible refine And.intro ?sc ?_); case sc => exact side) | ((with_reducible refine br_f ?sc ?_); case sc => exact sideB) | ((with_reducible refine br_t ?sc ?_); case sc => exact sideB))
        refine least_at (i := 0) (fr := fr) (N := limit.toNat) hlN.symm rfl rfl hbad hfr60 (by omega) (by omega) hn2 hnN ?_
        repeat ((conv => whnf); first | with_reducible refine O_step ?_ | with_reducible refine S_step ?_ | with_reducible refine D_step ?_ | with_reducible refine RO.exit ?_ | with_reducible refine RO.ret ?_ | ((with_reducible refine And.intro ?sc ?_); case sc => exact side) | ((with_reducible refine br_f ?sc ?_); case sc => exact sideB) | ((with_reducible refine br_t ?sc ?_); case sc => exact sideB))
        refine And.intro (fun v3 => ?_) (fun v3 => ?_)
        · repeat ((conv => whnf); first | with_reducible refine O_step ?_ | with_reducible refine S_step ?_ | with_reducible refine D_step ?_ | with_reducible refine RO.exit ?_ | with_reducible refine RO.ret ?_ | ((with_reducible refine And.intro ?sc ?_); case sc => exact side) | ((with_reducible refine br_f ?sc ?_); case sc => exact sideB) | ((with_reducible refine br_t ?sc ?_); case sc => exact sideB))
          refine hcodes_at ?_
          repeat ((conv => whnf); first | with_reducible refine O_step ?_ | with_reducible refine S_step ?_ | with_reducible refine D_step ?_ | with_reducible refine RO.exit ?_ | with_reducible refine RO.ret ?_ | ((with_reducible refine And.intro ?sc ?_); case sc => exact side) | ((with_reducible refine br_f ?sc ?_); case sc => exact sideB) | ((with_reducible refine br_t ?sc ?_); case sc => exact sideB))
          exact ⟨true, rfl, rfl⟩
        · exfalso; simp [hco] at v3
      · exfalso; simp [hsu] at v2
end Go.Proofs.Ytdnmbmnfglbfoaa
