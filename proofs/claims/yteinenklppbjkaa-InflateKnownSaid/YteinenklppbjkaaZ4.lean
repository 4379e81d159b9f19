/- Layer 8: symbols of a block. -/
import Derived.Test.YteinenklppbjkaaZ3

set_option linter.unusedVariables false

set_option linter.unusedSimpArgs false

open Go.RowKit

namespace Go.Proofs.Yteinenklppbjkaa

set_option maxRecDepth 10000

/-- Bytes that came already, once more. -/
def pCopy (d : Nat) : Nat → DP Unit
  | 0 => .ret ()
  | n + 1 => .back d fun v => .come v (pCopy d n)
/-- A block's symbols. -/
def pSyms (A B : List ((Int × Int) × Int)) : Nat → DP Unit
  | 0 => .fail 50
  | f + 1 => (tSym A).bind fun v => if v < 256 then .come v (pSyms A B f) else if v = 256 then .ret () else if 285 < v then .fail 80 else
      (if v < 285 then (pFar (v - 257).toNat 4).bind fun z => .ret (3 + z) else .ret 258 : DP Int).bind fun n =>
        (tSym B).bind fun d => if 29 < d then .fail 80 else (pFar d.toNat 2).bind fun z => .dist (1 + z) ((pCopy (1 + z).toNat n.toNat).bind fun _ => pSyms A B f)
def zH8 (lim gb cb : Nat) (xs : List Int) (A B : List ((Int × Int) × Int)) (g c : Nat) (s : DS) : AH := zH lim gb cb xs g c s ++ [mapO A, tabO 4, mapO B, tabO 6]
section

variable {K Kp : AV → AH → Prop} {xs : List Int} {lim gb cb g c : Nat} {s : DS}

theorem zH8_nb {A B : List ((Int × Int) × Int)} : nbH 8 (zH8 lim gb cb xs A B g c s) := ⟨by simp [Cont.nb, AV.nbl, AV.nb, AO.nb], rfl, trivial, trivial, mz_nb _ (.pair .i64 .i64) _, rfl, mz_nb _ (.pair .i64 .i64) _, rfl, trivial⟩
theorem syms_call {A B : List ((Int × Int) × Int)} {N N' : Int} {f0 : Nat} (ok : ZOk xs lim c s) (hb : ∀ x ∈ s.out, 0 ≤ x ∧ x < 256) (hA : keyOk A) (hB : keyOk B) (hA2 : symLt N A) (hB2 : symLt N' B) (hf : lim < f0 + s.out.length) {R : Except Int (Unit × DS)} (hR : (pSyms A B f0).run (unpack xs) lim s = R)
    (h0 : ∀ g' c' s', R = .ok ((), s') → ZOk xs lim c' s' → (∀ x ∈ s'.out, 0 ≤ x ∧ x < 256) → K (.tup []) (zH8 lim gb cb xs A B g' c' s'))
    (h1 : ∀ e g' c' s', R = .error e → Kp (faultV e) (zH8 lim gb cb xs A B g' c' s')) :
    CallA Try.prog 34 [.ptr 0 0 0, .ptr 5 0 0, .ptr 7 0 0] (zH8 lim gb cb xs A B g c s) K Kp := by
  refine step34 (fun _ => [0, 3]) [] rfl ?_
  repeat ((conv => whnf); first | with_reducible refine O_step ?_ | with_reducible refine S_step ?_ | with_reducible refine D_step ?_ | with_reducible refine RO.exit ?_ | with_reducible refine RO.ret ?_ | ((with_reducible refine And.intro ?sc ?_); case sc => exact side) | ((with_reducible refine br_f ?sc ?_); case sc => exact sideB) | ((with_reducible refine br_t ?sc ?_); case sc => exact sideB))
  refine WO.go (σ := Nat × Nat × Nat × DS) (fun (f, g, c, s) => ZOk xs lim c s ∧ (∀ x ∈ s.out, 0 ≤ x ∧ x < 256) ∧ lim < f + s.out.length ∧ (pSyms A B f).run (unpack xs) lim s = R) (fun (f, g, c, s) => lim - s.out.length)
    (fun _ => [(0, .ptr 0 0 0), (1, .ptr 5 0 0), (2, .ptr 7 0 0)]) (fun (f, g, c, s) => zH8 lim gb cb xs A B g c s) (f0, g, c, s) tb_ok mixed (by kernel_rfl) ⟨ok, hb, hf, hR⟩ (And.intro rfl (And.intro rfl (And.intro rfl (trivial)))) (And.intro rfl (And.intro rfl (And.intro rfl (And.intro rfl (And.intro rfl (And.intro rfl (And.intro rfl (And.intro rfl (trivial))))))))) (fun _ => rfl) (fun _ => rfl) (fun _ => zH8_nb) ?_
  rintro ⟨f, g, c, s⟩ ⟨ok, hb, hf, hR⟩ d0
  have hol := ok.ol
  obtain ⟨f, rfl⟩ : ∃ f', f = f' + 1 := ⟨f - 1, by omega⟩
  rw [pSyms, DP.run_bind] at hR
  repeat ((conv => whnf); first | with_reducible refine O_step ?_ | with_reducible refine S_step ?_ | with_reducible refine D_step ?_ | with_reducible refine RO.exit ?_ | with_reducible refine RO.ret ?_ | ((with_reducible refine And.intro ?sc ?_); case sc => exact side) | ((with_reducible refine br_f ?sc ?_); case sc => exact sideB) | ((with_reducible refine br_t ?sc ?_); case sc => exact sideB))
  refine symbol_at [mapO A, tabO 4, mapO B, tabO 6] 0 rfl rfl ok hA rfl (fun v s1 h ok1 => ?_) (fun e s1 h => ?_)
  · rw [h] at hR
    simp only at hR
    have hv := (tSym_lt hA2 h).1
    have ho := tSym_out h
    repeat ((conv => whnf); first | with_reducible refine O_step ?_ | with_reducible refine S_step ?_ | with_reducible refine D_step ?_ | with_reducible refine RO.exit ?_ | with_reducible refine RO.ret ?_ | ((with_reducible refine And.intro ?sc ?_); case sc => exact side) | ((with_reducible refine br_f ?sc ?_); case sc => exact sideB) | ((with_reducible refine br_t ?sc ?_); case sc => exact sideB))
    refine And.intro (fun hc => ?_) (fun hc => ?_)
    · have hl : v < 256 := by simpa using hc
      rw [if_pos hl] at hR
      simp only [DP.run] at hR
      have e1 : v % 256 = v := Int.emod_eq_of_lt hv hl
      repeat ((conv => whnf); first | with_reducible refine O_step ?_ | with_reducible refine S_step ?_ | with_reducible refine D_step ?_ | with_reducible refine RO.exit ?_ | with_reducible refine RO.ret ?_ | ((with_reducible refine And.intro ?sc ?_); case sc => exact side) | ((with_reducible refine br_f ?sc ?_); case sc => exact sideB) | ((with_reducible refine br_t ?sc ?_); case sc => exact sideB))
      rw [e1]
      refine come_at [mapO A, tabO 4, mapO B, tabO 6] ok1 ⟨hv, hl⟩ (fun g2 c2 hlim ok2 => ?_) (fun hlim => ?_)
      · rw [if_neg hlim] at hR
        have hb2 : ∀ x ∈ s1.out ++ [v], 0 ≤ x ∧ x < 256 := by
          intro x hx
          rcases List.mem_append.1 hx with hx | hx
          · rw [ho] at hx; exact hb x hx
          · rw [List.mem_singleton.1 hx]; exact ⟨hv, hl⟩
        repeat ((conv => whnf); first | with_reducible refine O_step ?_ | with_reducible refine S_step ?_ | with_reducible refine D_step ?_ | with_reducible refine RO.exit ?_ | with_reducible refine RO.ret ?_ | ((with_reducible refine And.intro ?sc ?_); case sc => exact side) | ((with_reducible refine br_f ?sc ?_); case sc => exact sideB) | ((with_reducible refine br_t ?sc ?_); case sc => exact sideB))
        refine RO.same (f, g2, c2, { s1 with out := s1.out ++ [v] }) ⟨ok2, hb2, by show lim < f + (s1.out ++ [v]).length; rw [List.length_append, List.length_singleton, ho]; omega, hR⟩ (by show lim - (s1.out ++ [v]).length < lim - s.out.length; rw [List.length_append, List.length_singleton, ho]; rw [ho] at hlim; omega) (And.intro rfl (And.intro rfl (And.intro rfl (trivial)))) (And.intro rfl (And.intro rfl (And.intro rfl (And.intro rfl (And.intro rfl (And.intro rfl (And.intro rfl (And.intro rfl (trivial)))))))))
      · rw [if_pos hlim] at hR
        exact h1 81 _ _ _ hR.symm
    have hl : ¬ v < 256 := by simpa using hc
    rw [if_neg hl] at hR
    repeat ((conv => whnf); first | with_reducible refine O_step ?_ | with_reducible refine S_step ?_ | with_reducible refine D_step ?_ | with_reducible refine RO.exit ?_ | with_reducible refine RO.ret ?_ | ((with_reducible refine And.intro ?sc ?_); case sc => exact side) | ((with_reducible refine br_f ?sc ?_); case sc => exact sideB) | ((with_reducible refine br_t ?sc ?_); case sc => exact sideB))
    refine And.intro (fun hc => ?_) (fun hc => ?_)
    · have he : v = 256 := by simpa using hc
      rw [if_pos he] at hR
      have hK := h0 g c s1 hR.symm ok1 (by rw [ho]; exact hb)
      repeat ((conv => whnf); first | with_reducible refine O_step ?_ | with_reducible refine S_step ?_ | with_reducible refine D_step ?_ | with_reducible refine RO.exit ?_ | with_reducible refine RO.ret ?_ | ((with_reducible refine And.intro ?sc ?_); case sc => exact side) | ((with_reducible refine br_f ?sc ?_); case sc => exact sideB) | ((with_reducible refine br_t ?sc ?_); case sc => exact sideB))
      exact hK
    have he : ¬ v = 256 := by simpa using hc
    rw [if_neg he] at hR
    repeat ((conv => whnf); first | with_reducible refine O_step ?_ | with_reducible refine S_step ?_ | with_reducible refine D_step ?_ | with_reducible refine RO.exit ?_ | with_reducible refine RO.ret ?_ | ((with_reducible refine And.intro ?sc ?_); case sc => exact side) | ((with_reducible refine br_f ?sc ?_); case sc => exact sideB) | ((with_reducible refine br_t ?sc ?_); case sc => exact sideB))
    refine And.intro (fun hc => ?_) (fun hc => ?_)
    · have hg : 285 < v := by simpa using hc
      rw [if_pos hg] at hR
      repeat ((conv => whnf); first | with_reducible refine O_step ?_ | with_reducible refine S_step ?_ | with_reducible refine D_step ?_ | with_reducible refine RO.exit ?_ | with_reducible refine RO.ret ?_ | ((with_reducible refine And.intro ?sc ?_); case sc => exact side) | ((with_reducible refine br_f ?sc ?_); case sc => exact sideB) | ((with_reducible refine br_t ?sc ?_); case sc => exact sideB))
      refine must_at (fun h => absurd h (by decide)) (fun _ => ?_)
      exact h1 80 _ _ _ hR.symm
    have hg : ¬ 285 < v := by simpa using hc
    rw [if_neg hg] at hR
    repeat ((conv => whnf); first | with_reducible refine O_step ?_ | with_reducible refine S_step ?_ | with_reducible refine D_step ?_ | with_reducible refine RO.exit ?_ | with_reducible refine RO.ret ?_ | ((with_reducible refine And.intro ?sc ?_); case sc => exact side) | ((with_reducible refine br_f ?sc ?_); case sc => exact sideB) | ((with_reducible refine br_t ?sc ?_); case sc => exact sideB))
    refine And.intro (fun hc => ?_) (fun hc => ?_)
    · have hm : v < 285 := by simpa using hc
      rw [if_pos hm, DP.run_bind, DP.run_bind] at hR
      obtain ⟨w, hw⟩ : ∃ w, (v - 257).toNat = w := ⟨_, rfl⟩
      have hw2 : v - 257 = (w : Int) := by omega
      rw [hw] at hR
      repeat ((conv => whnf); first | with_reducible refine O_step ?_ | with_reducible refine S_step ?_ | with_reducible refine D_step ?_ | with_reducible refine RO.exit ?_ | with_reducible refine RO.ret ?_ | ((with_reducible refine And.intro ?sc ?_); case sc => exact side) | ((with_reducible refine br_f ?sc ?_); case sc => exact sideB) | ((with_reducible refine br_t ?sc ?_); case sc => exact sideB))
      rw [hw2]
      refine far_at [mapO A, tabO 4, mapO B, tabO 6] (v := w) (each := 4) ok1 (.inr rfl) (by omega) (fun z2 s2 h2 ok2 hz2 => ?_) (fun e s2 h2 => ?_)
      · rw [h2] at hR
        have ho2 := pFar_out h2
        simp only [DP.run] at hR
        rw [DP.run_bind] at hR
        repeat ((conv => whnf); first | with_reducible refine O_step ?_ | with_reducible refine S_step ?_ | with_reducible refine D_step ?_ | with_reducible refine RO.exit ?_ | with_reducible refine RO.ret ?_ | ((with_reducible refine And.intro ?sc ?_); case sc => exact side) | ((with_reducible refine br_f ?sc ?_); case sc => exact sideB) | ((with_reducible refine br_t ?sc ?_); case sc => exact sideB))
        refine symbol_at [mapO A, tabO 4, mapO B, tabO 6] 2 rfl rfl ok2 hB rfl (fun v2 s3 h3 ok3 => ?_) (fun e s3 h3 => ?_)
        · rw [h3] at hR
          simp only at hR
          have hv2 := (tSym_lt hB2 h3).1
          have ho3 := tSym_out h3
          repeat ((conv => whnf); first | with_reducible refine O_step ?_ | with_reducible refine S_step ?_ | with_reducible refine D_step ?_ | with_reducible refine RO.exit ?_ | with_reducible refine RO.ret ?_ | ((with_reducible refine And.intro ?sc ?_); case sc => exact side) | ((with_reducible refine br_f ?sc ?_); case sc => exact sideB) | ((with_reducible refine br_t ?sc ?_); case sc => exact sideB))
          refine And.intro (fun hc3 => ?_) (fun hc3 => ?_)
          · have hl3 : (29 : Int) < v2 := by simpa using hc3
            rw [if_pos hl3] at hR
            repeat ((conv => whnf); first | with_reducible refine O_step ?_ | with_reducible refine S_step ?_ | with_reducible refine D_step ?_ | with_reducible refine RO.exit ?_ | with_reducible refine RO.ret ?_ | ((with_reducible refine And.intro ?sc ?_); case sc => exact side) | ((with_reducible refine br_f ?sc ?_); case sc => exact sideB) | ((with_reducible refine br_t ?sc ?_); case sc => exact sideB))
            refine must_at (fun h => absurd h (by decide)) (fun _ => ?_)
            exact h1 80 _ _ _ hR.symm
          have hl3 : ¬ (29 : Int) < v2 := by simpa using hc3
          rw [if_neg hl3, DP.run_bind] at hR
          obtain ⟨w2, rfl⟩ := Int.eq_ofNat_of_zero_le hv2
          rw [Int.toNat_natCast] at hR
          repeat ((conv => whnf); first | with_reducible refine O_step ?_ | with_reducible refine S_step ?_ | with_reducible refine D_step ?_ | with_reducible refine RO.exit ?_ | with_reducible refine RO.ret ?_ | ((with_reducible refine And.intro ?sc ?_); case sc => exact side) | ((with_reducible refine br_f ?sc ?_); case sc => exact sideB) | ((with_reducible refine br_t ?sc ?_); case sc => exact sideB))
          refine far_at [mapO A, tabO 4, mapO B, tabO 6] (v := w2) (each := 2) ok3 (.inl rfl) (by omega) (fun z4 s4 h4 ok4 hz4 => ?_) (fun e s4 h4 => ?_)
          · rw [h4] at hR
            have ho4 := pFar_out h4
            simp only [DP.run] at hR
            have hol4 := ok4.ol
            have hll4 := ok4.ll
            repeat ((conv => whnf); first | with_reducible refine O_step ?_ | with_reducible refine S_step ?_ | with_reducible refine D_step ?_ | with_reducible refine RO.exit ?_ | with_reducible refine RO.ret ?_ | ((with_reducible refine And.intro ?sc ?_); case sc => exact side) | ((with_reducible refine br_f ?sc ?_); case sc => exact sideB) | ((with_reducible refine br_t ?sc ?_); case sc => exact sideB))
            refine And.intro (fun hc5 => ?_) (fun hc5 => ?_)
            · have hl5 : (s4.out.length : Int) < 1 + z4 := by simpa using hc5
              rw [if_pos hl5] at hR
              repeat ((conv => whnf); first | with_reducible refine O_step ?_ | with_reducible refine S_step ?_ | with_reducible refine D_step ?_ | with_reducible refine RO.exit ?_ | with_reducible refine RO.ret ?_ | ((with_reducible refine And.intro ?sc ?_); case sc => exact side) | ((with_reducible refine br_f ?sc ?_); case sc => exact sideB) | ((with_reducible refine br_t ?sc ?_); case sc => exact sideB))
              refine must_at (fun h => absurd h (by decide)) (fun _ => ?_)
              exact h1 70 _ _ _ hR.symm
            have hl5 : ¬ (s4.out.length : Int) < 1 + z4 := by simpa using hc5
            rw [if_neg hl5, DP.run_bind] at hR
            obtain ⟨D, hD⟩ : ∃ D, (1 + z4).toNat = D := ⟨_, rfl⟩
            have hD2 : 1 + z4 = (D : Int) := by omega
            rw [hD] at hR
            obtain ⟨n, hn⟩ : ∃ n, (3 + z2).toNat = n := ⟨_, rfl⟩
            have hn2 : 3 + z2 = (n : Int) := by omega
            have hn3 : 3 ≤ n := by omega
            rw [hn] at hR
            obtain ⟨R2, hR2⟩ : ∃ R2, (pCopy D n).run (unpack xs) lim s4 = R2 := ⟨_, rfl⟩
            rw [hR2] at hR
            have ho5 : s4.out = s.out := by rw [ho4, ho3, ho2, ho]
            rw [hD2]
            repeat ((conv => whnf); first | with_reducible refine O_step ?_ | with_reducible refine S_step ?_ | with_reducible refine D_step ?_ | with_reducible refine RO.exit ?_ | with_reducible refine RO.ret ?_ | ((with_reducible refine And.intro ?sc ?_); case sc => exact side) | ((with_reducible refine br_f ?sc ?_); case sc => exact sideB) | ((with_reducible refine br_t ?sc ?_); case sc => exact sideB))
            refine WO.go (σ := Nat × Nat × Nat × DS) (fun (j, g, c, s') => ZOk xs lim c s' ∧ (∀ x ∈ s'.out, 0 ≤ x ∧ x < 256) ∧ j ≤ n ∧ s'.out.length = s4.out.length + j ∧ (pCopy D (n - j)).run (unpack xs) lim s' = R2) (fun (j, _) => n - j)
              (fun (j, _) => [(0, .ptr 0 0 0), (1, .ptr 5 0 0), (2, .ptr 7 0 0), (8, .int .i64 (D : Int)), (51, .int .i64 (n : Int)), (52, .int .i64 (j : Int))]) (fun (j, g, c, s) => zH8 lim gb cb xs A B g c s) (0, g, c, s4) tb_ok mixed (by kernel_rfl) ⟨ok4, by rw [ho5]; exact hb, Nat.zero_le _, rfl, hR2⟩ (And.intro rfl (And.intro rfl (And.intro rfl (And.intro rfl (And.intro (congrArg (AV.int .i64) hn2) (And.intro rfl trivial)))))) (And.intro rfl (And.intro rfl (And.intro rfl (And.intro rfl (And.intro rfl (And.intro rfl (And.intro rfl (And.intro rfl (trivial))))))))) (fun _ => rfl) (fun _ => rfl) (fun _ => zH8_nb) ?_
            rintro ⟨j, g5, c5, s5⟩ ⟨ok5, hb5, hj, hs5, hR5⟩ d5
            have hol5 := ok5.ol
            repeat ((conv => whnf); first | with_reducible refine O_step ?_ | with_reducible refine S_step ?_ | with_reducible refine D_step ?_ | with_reducible refine RO.exit ?_ | with_reducible refine RO.ret ?_ | ((with_reducible refine And.intro ?sc ?_); case sc => exact side) | ((with_reducible refine br_f ?sc ?_); case sc => exact sideB) | ((with_reducible refine br_t ?sc ?_); case sc => exact sideB))
            refine And.intro (fun hc6 => ?_) (fun hc6 => ?_)
            · have hj6 : j < n := by simp only [decide_eq_true_eq] at hc6; omega
              have hD3 : 1 ≤ D ∧ D ≤ s5.out.length := by omega
              have e6 : ((s5.out.length : Int) - (D : Int)).toNat + 0 = s5.out.length - D := by omega
              obtain ⟨y, hy⟩ : ∃ y, s5.out.getD (s5.out.length - D) 0 = y := ⟨_, rfl⟩
              have hyb : 0 ≤ y ∧ y < 256 := by
                rw [← hy, List.getD_eq_getElem?_getD, List.getElem?_eq_getElem (by omega), Option.getD_some]
                exact hb5 _ (List.getElem_mem _)
              rw [show n - j = n - (j + 1) + 1 by omega] at hR5
              simp only [pCopy, DP.run, hy] at hR5
              rw [if_neg (by omega)] at hR5
              repeat ((conv => whnf); first | with_reducible refine O_step ?_ | with_reducible refine S_step ?_ | with_reducible refine D_step ?_ | with_reducible refine RO.exit ?_ | with_reducible refine RO.ret ?_ | ((with_reducible refine And.intro ?sc ?_); case sc => exact side) | ((with_reducible refine br_f ?sc ?_); case sc => exact sideB) | ((with_reducible refine br_t ?sc ?_); case sc => exact sideB))
              rw [e6, hy]
              refine come_at [mapO A, tabO 4, mapO B, tabO 6] ok5 hyb (fun g7 c7 hlim ok7 => ?_) (fun hlim => ?_)
              · rw [if_neg hlim] at hR5
                have hb7 : ∀ x ∈ s5.out ++ [y], 0 ≤ x ∧ x < 256 := by
                  intro x hx
                  rcases List.mem_append.1 hx with hx | hx
                  · exact hb5 x hx
                  · rw [List.mem_singleton.1 hx]; exact hyb
                repeat ((conv => whnf); first | with_reducible refine O_step ?_ | with_reducible refine S_step ?_ | with_reducible refine D_step ?_ | with_reducible refine RO.exit ?_ | with_reducible refine RO.ret ?_ | ((with_reducible refine And.intro ?sc ?_); case sc => exact side) | ((with_reducible refine br_f ?sc ?_); case sc => exact sideB) | ((with_reducible refine br_t ?sc ?_); case sc => exact sideB))
                refine RO.same (j + 1, g7, c7, { s5 with out := s5.out ++ [y] }) ⟨ok7, hb7, by omega, by show (s5.out ++ [y]).length = _; rw [List.length_append, List.length_singleton]; omega, hR5⟩ (show n - (j + 1) < n - j by omega) (And.intro rfl (And.intro rfl (And.intro rfl (And.intro rfl (And.intro rfl (And.intro rfl (trivial))))))) (And.intro rfl (And.intro rfl (And.intro rfl (And.intro rfl (And.intro rfl (And.intro rfl (And.intro rfl (And.intro rfl (trivial)))))))))
              · rw [if_pos hlim] at hR5
                rw [← hR5] at hR
                exact h1 81 _ _ _ hR.symm
            · obtain rfl : j = n := by simp only [decide_eq_false_iff_not] at hc6; omega
              rw [Nat.sub_self] at hR5
              simp only [pCopy, DP.run] at hR5
              rw [← hR5] at hR
              simp only at hR
              repeat ((conv => whnf); first | with_reducible refine O_step ?_ | with_reducible refine S_step ?_ | with_reducible refine D_step ?_ | with_reducible refine RO.exit ?_ | with_reducible refine RO.ret ?_ | ((with_reducible refine And.intro ?sc ?_); case sc => exact side) | ((with_reducible refine br_f ?sc ?_); case sc => exact sideB) | ((with_reducible refine br_t ?sc ?_); case sc => exact sideB))
              refine RO.same (f, g5, c5, s5) ⟨ok5, hb5, by show lim < f + s5.out.length; rw [hs5, ho5]; omega, hR⟩ (by show lim - s5.out.length < lim - s.out.length; rw [hs5, ho5]; rw [hs5, ho5] at hol5; omega) (And.intro rfl (And.intro rfl (And.intro rfl (trivial)))) (And.intro rfl (And.intro rfl (And.intro rfl (And.intro rfl (And.intro rfl (And.intro rfl (And.intro rfl (And.intro rfl (trivial)))))))))
          · rw [h4] at hR
            exact h1 e _ _ _ hR.symm
        · rw [h3] at hR
          exact h1 e _ _ _ hR.symm
      · rw [h2] at hR
        exact h1 e _ _ _ hR.symm
    · have hm : ¬ v < 285 := by simpa using hc
      rw [if_neg hm, DP.run_bind] at hR
      simp only [DP.run] at hR
      rw [DP.run_bind] at hR
      repeat ((conv => whnf); first | with_reducible refine O_step ?_ | with_reducible refine S_step ?_ | with_reducible refine D_step ?_ | with_reducible refine RO.exit ?_ | with_reducible refine RO.ret ?_ | ((with_reducible refine And.intro ?sc ?_); case sc => exact side) | ((with_reducible refine br_f ?sc ?_); case sc => exact sideB) | ((with_reducible refine br_t ?sc ?_); case sc => exact sideB))
      refine symbol_at [mapO A, tabO 4, mapO B, tabO 6] 2 rfl rfl ok1 hB rfl (fun v2 s3 h3 ok3 => ?_) (fun e s3 h3 => ?_)
      · rw [h3] at hR
        simp only at hR
        have hv2 := (tSym_lt hB2 h3).1
        have ho3 := tSym_out h3
        repeat ((conv => whnf); first | with_reducible refine O_step ?_ | with_reducible refine S_step ?_ | with_reducible refine D_step ?_ | with_reducible refine RO.exit ?_ | with_reducible refine RO.ret ?_ | ((with_reducible refine And.intro ?sc ?_); case sc => exact side) | ((with_reducible refine br_f ?sc ?_); case sc => exact sideB) | ((with_reducible refine br_t ?sc ?_); case sc => exact sideB))
        refine And.intro (fun hc3 => ?_) (fun hc3 => ?_)
        · have hl3 : (29 : Int) < v2 := by simpa using hc3
          rw [if_pos hl3] at hR
          repeat ((conv => whnf); first | with_reducible refine O_step ?_ | with_reducible refine S_step ?_ | with_reducible refine D_step ?_ | with_reducible refine RO.exit ?_ | with_reducible refine RO.ret ?_ | ((with_reducible refine And.intro ?sc ?_); case sc => exact side) | ((with_reducible refine br_f ?sc ?_); case sc => exact sideB) | ((with_reducible refine br_t ?sc ?_); case sc => exact sideB))
          refine must_at (fun h => absurd h (by decide)) (fun _ => ?_)
          exact h1 80 _ _ _ hR.symm
        have hl3 : ¬ (29 : Int) < v2 := by simpa using hc3
        rw [if_neg hl3, DP.run_bind] at hR
        obtain ⟨w2, rfl⟩ := Int.eq_ofNat_of_zero_le hv2
        rw [Int.toNat_natCast] at hR
        repeat ((conv => whnf); first | with_reducible refine O_step ?_ | with_reducible refine S_step ?_ | with_reducible refine D_step ?_ | with_reducible refine RO.exit ?_ | with_reducible refine RO.ret ?_ | ((with_reducible refine And.intro ?sc ?_); case sc => exact side) | ((with_reducible refine br_f ?sc ?_); case sc => exact sideB) | ((with_reducible refine br_t ?sc ?_); case sc => exact sideB))
        refine far_at [mapO A, tabO 4, mapO B, tabO 6] (v := w2) (each := 2) ok3 (.inl rfl) (by omega) (fun z4 s4 h4 ok4 hz4 => ?_) (fun e s4 h4 => ?_)
        · rw [h4] at hR
          have ho4 := pFar_out h4
          simp only [DP.run] at hR
          have hol4 := ok4.ol
          have hll4 := ok4.ll
          repeat ((conv => whnf); first | with_reducible refine O_step ?_ | with_reducible refine S_step ?_ | with_reducible refine D_step ?_ | with_reducible refine RO.exit ?_ | with_reducible refine RO.ret ?_ | ((with_reducible refine And.intro ?sc ?_); case sc => exact side) | ((with_reducible refine br_f ?sc ?_); case sc => exact sideB) | ((with_reducible refine br_t ?sc ?_); case sc => exact sideB))
          refine And.intro (fun hc5 => ?_) (fun hc5 => ?_)
          · have hl5 : (s4.out.length : Int) < 1 + z4 := by simpa using hc5
            rw [if_pos hl5] at hR
            repeat ((conv => whnf); first | with_reducible refine O_step ?_ | with_reducible refine S_step ?_ | with_reducible refine D_step ?_ | with_reducible refine RO.exit ?_ | with_reducible refine RO.ret ?_ | ((with_reducible refine And.intro ?sc ?_); case sc => exact side) | ((with_reducible refine br_f ?sc ?_); case sc => exact sideB) | ((with_reducible refine br_t ?sc ?_); case sc => exact sideB))
            refine must_at (fun h => absurd h (by decide)) (fun _ => ?_)
            exact h1 70 _ _ _ hR.symm
          have hl5 : ¬ (s4.out.length : Int) < 1 + z4 := by simpa using hc5
          rw [if_neg hl5, DP.run_bind] at hR
          obtain ⟨D, hD⟩ : ∃ D, (1 + z4).toNat = D := ⟨_, rfl⟩
          have hD2 : 1 + z4 = (D : Int) := by omega
          rw [hD] at hR
          obtain ⟨n, hn⟩ : ∃ n, ((258 : Int)).toNat = n := ⟨_, rfl⟩
          have hn2 : (258 : Int) = (n : Int) := by omega
          have hn3 : 3 ≤ n := by omega
          rw [hn] at hR
          obtain ⟨R2, hR2⟩ : ∃ R2, (pCopy D n).run (unpack xs) lim s4 = R2 := ⟨_, rfl⟩
          rw [hR2] at hR
          have ho5 : s4.out = s.out := by rw [ho4, ho3, ho]
          rw [hD2]
          repeat ((conv => whnf); first | with_reducible refine O_step ?_ | with_reducible refine S_step ?_ | with_reducible refine D_step ?_ | with_reducible refine RO.exit ?_ | with_reducible refine RO.ret ?_ | ((with_reducible refine And.intro ?sc ?_); case sc => exact side) | ((with_reducible refine br_f ?sc ?_); case sc => exact sideB) | ((with_reducible refine br_t ?sc ?_); case sc => exact sideB))
          refine WO.go (σ := Nat × Nat × Nat × DS) (fun (j, g, c, s') => ZOk xs lim c s' ∧ (∀ x ∈ s'.out, 0 ≤ x ∧ x < 256) ∧ j ≤ n ∧ s'.out.length = s4.out.length + j ∧ (pCopy D (n - j)).run (unpack xs) lim s' = R2) (fun (j, _) => n - j)
            (fun (j, _) => [(0, .ptr 0 0 0), (1, .ptr 5 0 0), (2, .ptr 7 0 0), (8, .int .i64 (D : Int)), (51, .int .i64 (n : Int)), (52, .int .i64 (j : Int))]) (fun (j, g, c, s) => zH8 lim gb cb xs A B g c s) (0, g, c, s4) tb_ok mixed (by kernel_rfl) ⟨ok4, by rw [ho5]; exact hb, Nat.zero_le _, rfl, hR2⟩ (And.intro rfl (And.intro rfl (And.intro rfl (And.intro rfl (And.intro (congrArg (AV.int .i64) hn2) (And.intro rfl trivial)))))) (And.intro rfl (And.intro rfl (And.intro rfl (And.intro rfl (And.intro rfl (And.intro rfl (And.intro rfl (And.intro rfl (trivial))))))))) (fun _ => rfl) (fun _ => rfl) (fun _ => zH8_nb) ?_
          rintro ⟨j, g5, c5, s5⟩ ⟨ok5, hb5, hj, hs5, hR5⟩ d5
          have hol5 := ok5.ol
          repeat ((conv => whnf); first | with_reducible refine O_step ?_ | with_reducible refine S_step ?_ | with_reducible refine D_step ?_ | with_reducible refine RO.exit ?_ | with_reducible refine RO.ret ?_ | ((with_reducible refine And.intro ?sc ?_); case sc => exact side) | ((with_reducible refine br_f ?sc ?_); case sc => exact sideB) | ((with_reducible refine br_t ?sc ?_); case sc => exact sideB))
          refine And.intro (fun hc6 => ?_) (fun hc6 => ?_)
          · have hj6 : j < n := by simp only [decide_eq_true_eq] at hc6; omega
            have hD3 : 1 ≤ D ∧ D ≤ s5.out.length := by omega
            have e6 : ((s5.out.length : Int) - (D : Int)).toNat + 0 = s5.out.length - D := by omega
            obtain ⟨y, hy⟩ : ∃ y, s5.out.getD (s5.out.length - D) 0 = y := ⟨_, rfl⟩
            have hyb : 0 ≤ y ∧ y < 256 := by
              rw [← hy, List.getD_eq_getElem?_getD, List.getElem?_eq_getElem (by omega), Option.getD_some]
              exact hb5 _ (List.getElem_mem _)
            rw [show n - j = n - (j + 1) + 1 by omega] at hR5
            simp only [pCopy, DP.run, hy] at hR5
            rw [if_neg (by omega)] at hR5
            repeat ((conv => whnf); first | with_reducible refine O_step ?_ | with_reducible refine S_step ?_ | with_reducible refine D_step ?_ | with_reducible refine RO.exit ?_ | with_reducible refine RO.ret ?_ | ((with_reducible refine And.intro ?sc ?_); case sc => exact side) | ((with_reducible refine br_f ?sc ?_); case sc => exact sideB) | ((with_reducible refine br_t ?sc ?_); case sc => exact sideB))
            rw [e6, hy]
            refine come_at [mapO A, tabO 4, mapO B, tabO 6] ok5 hyb (fun g7 c7 hlim ok7 => ?_) (fun hlim => ?_)
            · rw [if_neg hlim] at hR5
              have hb7 : ∀ x ∈ s5.out ++ [y], 0 ≤ x ∧ x < 256 := by
                intro x hx
                rcases List.mem_append.1 hx with hx | hx
                · exact hb5 x hx
                · rw [List.mem_singleton.1 hx]; exact hyb
              repeat ((conv => whnf); first | with_reducible refine O_step ?_ | with_reducible refine S_step ?_ | with_reducible refine D_step ?_ | with_reducible refine RO.exit ?_ | with_reducible refine RO.ret ?_ | ((with_reducible refine And.intro ?sc ?_); case sc => exact side) | ((with_reducible refine br_f ?sc ?_); case sc => exact sideB) | ((with_reducible refine br_t ?sc ?_); case sc => exact sideB))
              refine RO.same (j + 1, g7, c7, { s5 with out := s5.out ++ [y] }) ⟨ok7, hb7, by omega, by show (s5.out ++ [y]).length = _; rw [List.length_append, List.length_singleton]; omega, hR5⟩ (show n - (j + 1) < n - j by omega) (And.intro rfl (And.intro rfl (And.intro rfl (And.intro rfl (And.intro rfl (And.intro rfl (trivial))))))) (And.intro rfl (And.intro rfl (And.intro rfl (And.intro rfl (And.intro rfl (And.intro rfl (And.intro rfl (And.intro rfl (trivial)))))))))
            · rw [if_pos hlim] at hR5
              rw [← hR5] at hR
              exact h1 81 _ _ _ hR.symm
          · obtain rfl : j = n := by simp only [decide_eq_false_iff_not] at hc6; omega
            rw [Nat.sub_self] at hR5
            simp only [pCopy, DP.run] at hR5
            rw [← hR5] at hR
            simp only at hR
            repeat ((conv => whnf); first | with_reducible refine O_step ?_ | with_reducible refine S_step ?_ | with_reducible refine D_step ?_ | with_reducible refine RO.exit ?_ | with_reducible refine RO.ret ?_ | ((with_reducible refine And.intro ?sc ?_); case sc => exact side) | ((with_reducible refine br_f ?sc ?_); case sc => exact sideB) | ((with_reducible refine br_t ?sc ?_); case sc => exact sideB))
            refine RO.same (f, g5, c5, s5) ⟨ok5, hb5, by show lim < f + s5.out.length; rw [hs5, ho5]; omega, hR⟩ (by show lim - s5.out.length < lim - s.out.length; rw [hs5, ho5]; rw [hs5, ho5] at hol5; omega) (And.intro rfl (And.intro rfl (And.intro rfl (trivial)))) (And.intro rfl (And.intro rfl (And.intro rfl (And.intro rfl (And.intro rfl (And.intro rfl (And.intro rfl (And.intro rfl (trivial)))))))))
        · rw [h4] at hR
          exact h1 e _ _ _ hR.symm
      · rw [h3] at hR
        exact h1 e _ _ _ hR.symm
  · rw [h] at hR
    exact h1 e _ _ _ hR.symm
end

end Go.Proofs.Yteinenklppbjkaa
