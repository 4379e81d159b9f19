/- Layer 6, the reference: All. -/
import Derived.Test.YtdnmbmnfglbfoaaH13

set_option linter.unusedVariables false

set_option linter.unusedSimpArgs false

open Go.RowKit

namespace Go.Proofs.Ytdnmbmnfglbfoaa

set_option maxRecDepth 10000

abbrev Tell := Nat × Nat × Nat

def lastC (ts : List Tell) : Nat := match ts.getLast? with | some t => t.2.1 | none => 0
def lastN (ts : List Tell) : Nat := match ts.getLast? with | some t => t.2.2 | none => 0
theorem lastC_snoc (ts : List Tell) (t : Tell) : lastC (ts ++ [t]) = t.2.1 := by simp [lastC]
theorem lastN_snoc (ts : List Tell) (t : Tell) : lastN (ts ++ [t]) = t.2.2 := by simp [lastN]
/-- A code's bits, the first one first. -/
def bitsC (code n : Nat) : List Bool := (List.range n).map fun j => decide (code / 2 ^ (n - 1 - j) % 2 = 1)
theorem bitsC_len (code n : Nat) : (bitsC code n).length = n := by simp [bitsC]
def bF (ts : List Tell) (cv : Nat → Nat) : Nat → Cont := fun j => .bools (bitsC (ts.getD j default).2.1 (ts.getD j default).2.2) (cv j)
abbrev gT (f : Nat) (cv : Nat → Nat) (ts : List Tell) : Nat → List AV := fun j => [.int .i64 ((ts.getD j default).1 : Int), .sl f j 0 (ts.getD j default).2.2 (cv j)]

def tO (f : Nat) (cv : Nat → Nat) (g c : Nat) (ts : List Tell) : AO := .one true g (.tab 2 ts.length (gT f cv ts) c)
theorem getD_app {ts : List Tell} {t : Tell} {r : Nat} (h : r < ts.length) : (ts ++ [t]).getD r default = ts.getD r default := by
  simp [List.getD_eq_getElem?_getD, List.getElem?_append_left h]
theorem getD_last {ts : List Tell} {t : Tell} : (ts ++ [t]).getD ts.length default = t := by simp [List.getD_eq_getElem?_getD]
theorem rowS_cnt (ls : List Int) (n : Nat) (x : Nat × List Tell) : ∀ i, (rowS ls n i x).2.length ≤ x.2.length + i
  | 0 => Nat.le_refl _
  | i + 1 => by
    have := rowS_cnt ls n x i
    rw [rowS_succ]; unfold stepS; split
    · show ((rowS ls n i x).2 ++ [_]).length ≤ _; rw [List.length_append]; simp only [List.length_singleton]; omega
    · omega
theorem tellS_cnt (ls : List Int) : ∀ n, (tellS ls n).2.length ≤ n * ls.length
  | 0 => by simp [tellS]
  | n + 1 => by
    have ih := tellS_cnt ls n
    have := rowS_cnt ls (n + 1) (2 * (tellS ls n).1, (tellS ls n).2) ls.length
    simp only [tellS]
    rw [show (n + 1) * ls.length = n * ls.length + ls.length from Nat.succ_mul n _]
    exact Nat.le_trans this (by show (tellS ls n).2.length + ls.length ≤ n * ls.length + ls.length; omega)
/-- How the next code hangs together with the last one. -/
def nextJ (n np : Nat) (ts : List Tell) : Prop := (ts = [] → np = 0) ∧ (ts ≠ [] → np = (lastC ts + 1) * 2 ^ (n - lastN ts) ∧ lastN ts ≤ n)
theorem nextJ_up {n np : Nat} {ts : List Tell} (h : nextJ n np ts) : nextJ (n + 1) (2 * np) ts := by
  refine ⟨fun e => by have := h.1 e; omega, fun e => ?_⟩
  obtain ⟨h1, h2⟩ := h.2 e
  refine ⟨?_, by omega⟩
  rw [show n + 1 - lastN ts = (n - lastN ts) + 1 by omega, Nat.pow_succ, h1, Nat.mul_comm 2, Nat.mul_assoc]
theorem nextJ_snoc {n np s : Nat} {ts : List Tell} : nextJ n (np + 1) (ts ++ [(s, np, n)]) := by
  refine ⟨fun e => by simp at e, fun _ => ?_⟩
  rw [lastC_snoc, lastN_snoc]
  exact ⟨by simp, Nat.le_refl _⟩
def allT (ls : List Int) : List Tell := if eachE ls = 0 then (tellS ls 15).2 else []
def allH (ls : List Int) (c : Nat) (cv : Nat → Nat) (g d : Nat) (ts : List Tell) : AH := [.one false 0 (.ints .u8 ls c), .fam true ts.length (bF ts cv), tO 1 cv g d ts]
theorem allH_nb {ls : List Int} {c g d : Nat} {cv : Nat → Nat} {ts : List Tell} : nbH (allH ls c cv g d ts).length (allH ls c cv g d ts) := ⟨trivial, fun _ => trivial, fun _ => rfl, trivial⟩
section

variable {ls : List Int} {c c0 : Nat} {Kp : AV → AH → Prop}

theorem all_call (hl : ls.length ≤ 2000) (hu : ∀ x ∈ ls, 0 ≤ x ∧ x < 256) : CallA Try.prog 20 [.sl 0 0 0 ls.length c0] [.one false 0 (.ints .u8 ls c)]
    (fun r M => ∃ g' c' cv, r = .tup [.sl 2 g' 0 (allT ls).length c', .int .i64 (eachE ls)] ∧ M = allH ls c cv g' c' (allT ls) ∧ (allT ls).length ≤ c') Kp := by
  refine CallA.post_view ?_
  refine step20 (fun _ => [0]) [] rfl ?_
  repeat ((conv => whnf); first | with_reducible refine O_step ?_ | with_reducible refine S_step ?_ | with_reducible refine D_step ?_ | with_reducible refine RO.exit ?_ | with_reducible refine RO.ret ?_ | ((with_reducible refine And.intro ?sc ?_); case sc => exact side) | ((with_reducible refine br_f ?sc ?_); case sc => exact sideB) | ((with_reducible refine br_t ?sc ?_); case sc => exact sideB))
  refine wrong_call hl hu ?_
  repeat ((conv => whnf); first | with_reducible refine O_step ?_ | with_reducible refine S_step ?_ | with_reducible refine D_step ?_ | with_reducible refine RO.exit ?_ | with_reducible refine RO.ret ?_ | ((with_reducible refine And.intro ?sc ?_); case sc => exact side) | ((with_reducible refine br_f ?sc ?_); case sc => exact sideB) | ((with_reducible refine br_t ?sc ?_); case sc => exact sideB))
  refine And.intro (fun h1 => ?_) (fun h1 => ?_)
  · have h1' : ¬ eachE ls = 0 := by simpa using h1
    repeat ((conv => whnf); first | with_reducible refine O_step ?_ | with_reducible refine S_step ?_ | with_reducible refine D_step ?_ | with_reducible refine RO.exit ?_ | with_reducible refine RO.ret ?_ | ((with_reducible refine And.intro ?sc ?_); case sc => exact side) | ((with_reducible refine br_f ?sc ?_); case sc => exact sideB) | ((with_reducible refine br_t ?sc ?_); case sc => exact sideB))
    refine ⟨_, _, Vw.trans (Vw.fam0 (own := true) (f := bF [] (fun _ => 0))) (Vw.canon (x := .tab 2 0 (gT 1 (fun _ => 0) []) 0) ⟨rfl, rfl⟩ (cnL_cons (cnV_tup (cnL_cons (by simp only [cnV]; exact .inr rfl) (cnL_cons (cnV_refl _ _) (cnL_nil _)))) (cnL_nil _))), 0, 0, fun _ => 0, ?_, ?_, ?_⟩
    all_goals (unfold allT; rw [if_neg h1'])
    · rfl
    · rfl
    · exact Nat.le_refl _
  have h1' : eachE ls = 0 := by simpa using h1
  have hb : badL ls = false := by
    cases hb : badL ls with
    | false => rfl
    | true => rw [eachE_bad hb] at h1'; cases h1'
  have hl3 : ls.length ≤ 320 := by
    unfold badL at hb
    simp only [Bool.or_eq_false_iff, decide_eq_false_iff_not] at hb
    omega
  have ht : allT ls = (tellS ls 15).2 := by unfold allT; rw [if_pos h1']
  repeat ((conv => whnf); first | with_reducible refine O_step ?_ | with_reducible refine S_step ?_ | with_reducible refine D_step ?_ | with_reducible refine RO.exit ?_ | with_reducible refine RO.ret ?_ | ((with_reducible refine And.intro ?sc ?_); case sc => exact side))
  refine WO.gov (σ := Nat × Nat × List Tell × Nat × Nat × (Nat → Nat)) (fun (n, np, ts, g, d, cv) => n ≤ 15 ∧ (np, ts) = tellS ls n ∧ nextJ n np ts ∧ ts.length ≤ d) (fun (n, _) => 15 - n)
    (fun (n, np, ts, g, d, cv) => [(0, .sl 0 0 0 ls.length c0), (5, .sl 2 g 0 ts.length d), (6, .int .i64 (lastC ts : Int)), (7, .int .i64 (lastN ts : Int)), (8, .int .i64 ((n : Int) + 1))])
    (fun (n, np, ts, g, d, cv) => allH ls c cv g d ts) (0, 0, [], 0, 0, fun _ => 0) tb_ok mixed (by kernel_rfl)
    [(0, .sl 0 0 0 ls.length c0), (5, .ns), (6, .int .i64 0), (7, .int .i64 0), (8, .int .i64 1)] _ ⟨Nat.zero_le _, rfl, ⟨fun _ => rfl, fun h => absurd rfl h⟩, Nat.zero_le _⟩ (And.intro rfl (And.intro rfl (And.intro rfl (And.intro rfl (And.intro rfl (trivial)))))) rfl
    (Vw.trans (Vw.fam0 (own := true) (f := bF [] (fun _ => 0))) (Vw.nils (x := .tab 2 0 (gT 1 (fun _ => 0) []) 0) ⟨rfl, rfl⟩ ?_)) (And.intro rfl (And.intro rfl (And.intro rfl (trivial)))) (fun _ => rfl) (fun _ => rfl) (fun _ => allH_nb) ?_
  · exact And.intro (.inl rfl) (And.intro (.inr ⟨rfl, rfl⟩) (And.intro (.inl rfl) (And.intro (.inl rfl) (And.intro (.inl rfl) trivial))))
  rintro ⟨n, np, ts, g, d, cv⟩ ⟨n1, n2, n3, n4⟩ d0
  repeat ((conv => whnf); first | with_reducible refine O_step ?_ | with_reducible refine S_step ?_ | with_reducible refine D_step ?_ | with_reducible refine RO.exit ?_ | with_reducible refine RO.ret ?_ | ((with_reducible refine And.intro ?sc ?_); case sc => exact side))
  refine And.intro (fun hn => ?_) (fun hn => ?_)
  · have hn' : (n : Int) + 1 ≤ 15 := by simpa using hn
    have hxb := tellS_le ls n
    rw [← n2] at hxb
    have hp : 2 ^ n ≤ 2 ^ 15 := Nat.pow_le_pow_right (by omega) n1
    have hpm : 2 ^ n * ls.length ≤ 2 ^ 15 * 320 := Nat.mul_le_mul hp hl3
    have hpe : (2 ^ 15 * 320 : Nat) = 10485760 := by decide
    rw [hpe] at hpm
    have hx1 : np ≤ 10485760 := by have : np + ls.length ≤ 2 ^ n * ls.length := hxb; omega
    repeat ((conv => whnf); first | with_reducible refine O_step ?_ | with_reducible refine S_step ?_ | with_reducible refine D_step ?_ | with_reducible refine RO.exit ?_ | with_reducible refine RO.ret ?_ | ((with_reducible refine And.intro ?sc ?_); case sc => exact side))
    refine WO.go (σ := Nat × Nat × List Tell × Nat × Nat × (Nat → Nat)) (fun (i, mp, us, g, d, cv) => i ≤ ls.length ∧ (mp, us) = rowS ls (n + 1) i (2 * np, ts) ∧ nextJ (n + 1) mp us ∧ us.length ≤ d) (fun (i, _) => ls.length - i)
      (fun (i, mp, us, g, d, cv) => [(0, .sl 0 0 0 ls.length c0), (5, .sl 2 g 0 us.length d), (6, .int .i64 (lastC us : Int)), (7, .int .i64 (lastN us : Int)), (8, .int .i64 ((n : Int) + 1)), (9, .int .i64 (i : Int))])
      (fun (i, mp, us, g, d, cv) => allH ls c cv g d us) (0, 2 * np, ts, g, d, cv) tb_ok mixed (by kernel_rfl) ⟨Nat.zero_le _, rfl, nextJ_up n3, n4⟩ (And.intro rfl (And.intro rfl (And.intro rfl (And.intro rfl (And.intro rfl (And.intro rfl (trivial))))))) (And.intro rfl (And.intro rfl (And.intro rfl (trivial)))) (fun _ => rfl) (fun _ => rfl) (fun _ => allH_nb) ?_
    rintro ⟨i, mp, us, g, d, cv⟩ ⟨i1, i2, i3, i4⟩ d1
    have hyb := rowS_le ls (n + 1) (2 * np, ts) i
    rw [← i2] at hyb
    have hmp : mp ≤ 2 * np + i := hyb
    repeat ((conv => whnf); first | with_reducible refine O_step ?_ | with_reducible refine S_step ?_ | with_reducible refine D_step ?_ | with_reducible refine RO.exit ?_ | with_reducible refine RO.ret ?_ | ((with_reducible refine And.intro ?sc ?_); case sc => exact side))
    refine And.intro (fun hi => ?_) (fun hi => ?_)
    · have hil : i < ls.length := by simp only [decide_eq_true_eq] at hi; omega
      have hlr : -9223372036854775808 ≤ ls.getD ((i : Int).toNat + 0) 0 ∧ ls.getD ((i : Int).toNat + 0) 0 ≤ 9223372036854775807 := by
        have := hu _ (getD_memI' (d := 0) hil)
        rw [Int.toNat_natCast, Nat.add_zero]; omega
      repeat ((conv => whnf); first | with_reducible refine O_step ?_ | with_reducible refine S_step ?_ | with_reducible refine D_step ?_ | with_reducible refine RO.exit ?_ | with_reducible refine RO.ret ?_ | ((with_reducible refine And.intro ?sc ?_); case sc => exact side))
      refine And.intro (fun hk => ?_) (fun hk => ?_)
      · have hk' : ¬ ls.getD i 0 = ((n + 1 : Nat) : Int) := by simpa using hk
        repeat ((conv => whnf); first | with_reducible refine O_step ?_ | with_reducible refine S_step ?_ | with_reducible refine D_step ?_ | with_reducible refine RO.exit ?_ | with_reducible refine RO.ret ?_ | ((with_reducible refine And.intro ?sc ?_); case sc => exact side))
        refine RO.same (i + 1, mp, us, g, d, cv) ⟨by omega, ?_, i3, i4⟩ (show ls.length - (i + 1) < ls.length - i by omega) (And.intro rfl (And.intro rfl (And.intro rfl (And.intro rfl (And.intro rfl (And.intro rfl (trivial))))))) (And.intro rfl (And.intro rfl (And.intro rfl (trivial))))
        rw [rowS_succ, ← i2]
        unfold stepS
        rw [if_neg hk']
      · have hk' : ls.getD i 0 = ((n + 1 : Nat) : Int) := by simpa using hk
        have hnew : (mp + 1, us ++ [(i, mp, n + 1)]) = rowS ls (n + 1) (i + 1) (2 * np, ts) := by
          rw [rowS_succ, ← i2]
          unfold stepS
          rw [if_pos hk']
        repeat ((conv => whnf); first | with_reducible refine O_step ?_ | with_reducible refine S_step ?_ | with_reducible refine D_step ?_ | with_reducible refine RO.exit ?_ | with_reducible refine RO.ret ?_ | ((with_reducible refine And.intro ?sc ?_); case sc => exact side))
        refine And.intro (fun he => ?_) (fun he => ?_)
        · have hne : us ≠ [] := by intro e; subst e; simp at he
          obtain ⟨q1, q2⟩ := i3.2 hne
          have hsh : shlF .i64 ((lastC us : Int) + 1) ((n : Int) + 1 - (lastN us : Int)) = (mp : Int) := by
            rw [show (n : Int) + 1 - (lastN us : Int) = ((n + 1 - lastN us : Nat) : Int) by omega, show (lastC us : Int) + 1 = ((lastC us + 1 : Nat) : Int) from rfl, shl64 (by rw [← q1]; omega) (by omega), ← q1]
          have hl0 : (0 : Int) ≤ (n : Int) + 1 - (lastN us : Int) := by omega
          have hlc : (lastC us : Int) + 1 ≤ 9223372036854775807 := by
            have : lastC us + 1 ≤ mp := by rw [q1]; exact Nat.le_mul_of_pos_right _ (Nat.pow_pos (by omega))
            omega
          repeat ((conv => whnf); first | with_reducible refine O_step ?_ | with_reducible refine S_step ?_ | with_reducible refine D_step ?_ | with_reducible refine RO.exit ?_ | with_reducible refine RO.ret ?_ | ((with_reducible refine And.intro ?sc ?_); case sc => exact side))
          refine WO.gov (σ := Nat × Nat × Nat) (fun (j, g3, c3) => j ≤ n + 1 ∧ ((bitsC mp (n + 1)).take j).length ≤ c3) (fun (j, _, _) => n + 1 - j)
            (fun (j, g3, c3) => [(0, .sl 0 0 0 ls.length c0), (5, .sl 2 g 0 us.length d), (6, .int .i64 (mp : Int)), (7, .int .i64 ((n : Int) + 1)), (8, .int .i64 ((n : Int) + 1)), (9, .int .i64 (i : Int)), (10, .sl 3 g3 0 ((bitsC mp (n + 1)).take j).length c3), (11, .int .i64 ((n : Int) - (j : Int)))])
            (fun (j, g3, c3) => [.one false 0 (.ints .u8 ls c), .fam true us.length (bF us cv), tO 1 cv g d us, .one true g3 (.bools ((bitsC mp (n + 1)).take j) c3)]) (0, 0, 0) tb_ok mixed (by kernel_rfl)
            [(0, .sl 0 0 0 ls.length c0), (5, .sl 2 g 0 us.length d), (6, .int .i64 (shlF .i64 ((lastC us : Int) + 1) ((n : Int) + 1 - (lastN us : Int)))), (7, .int .i64 ((n : Int) + 1)), (8, .int .i64 ((n : Int) + 1)), (9, .int .i64 (i : Int)), (10, .ns), (11, .int .i64 ((n : Int) + 1 - 1))] _ ⟨Nat.zero_le _, Nat.zero_le _⟩ (And.intro rfl (And.intro rfl (And.intro rfl (And.intro rfl (And.intro rfl (And.intro rfl (And.intro rfl (And.intro rfl (trivial))))))))) rfl
            (Vw.nils (x := .bools [] 0) ⟨rfl, rfl⟩ ?_) (And.intro rfl (And.intro rfl (And.intro rfl (And.intro rfl (trivial))))) (fun _ => rfl) (fun _ => rfl) (fun _ => ⟨trivial, fun _ => trivial, fun _ => rfl, trivial, trivial⟩) ?_
          · refine And.intro (.inl rfl) (And.intro (.inl rfl) (And.intro (.inl ?_) (And.intro (.inl rfl) (And.intro (.inl rfl) (And.intro (.inl rfl) (And.intro (.inr ⟨rfl, rfl⟩) (And.intro (.inl ?_) trivial)))))))
            · show AV.int .i64 (mp : Int) = AV.int .i64 _
              rw [hsh]
            · show AV.int .i64 ((n : Int) - ((0 : Nat) : Int)) = AV.int .i64 ((n : Int) + 1 - 1)
              congr 1; omega
          rintro ⟨j, g3, c3⟩ ⟨j1, j2⟩ d2
          have hbl := bitsC_len mp (n + 1)
          have htj : ((bitsC mp (n + 1)).take j).length = j := by rw [List.length_take]; omega
          repeat ((conv => whnf); first | with_reducible refine O_step ?_ | with_reducible refine S_step ?_ | with_reducible refine D_step ?_ | with_reducible refine RO.exit ?_ | with_reducible refine RO.ret ?_ | ((with_reducible refine And.intro ?sc ?_); case sc => exact side))
          refine And.intro (fun hj => ?_) (fun hj => ?_)
          · have hj' : (0 : Int) ≤ (n : Int) - (j : Int) := by simpa using hj
            have hsr : shrF .i64 (mp : Int) ((n : Int) - (j : Int)) = ((mp / 2 ^ (n - j) : Nat) : Int) := by
              rw [show (n : Int) - (j : Int) = ((n - j : Nat) : Int) by omega]
              exact shrK64 (by omega)
            have hbit : decide ((shrF .i64 (mp : Int) ((n : Int) - (j : Int))).tmod 2 = 1) = (bitsC mp (n + 1)).getD j false := by
              rw [hsr, Int.tmod_eq_emod_of_nonneg (Int.natCast_nonneg _)]
              have hjl : j < n + 1 := by omega
              simp only [bitsC, List.getD_eq_getElem?_getD, List.getElem?_map, List.getElem?_range hjl, Option.map_some, Option.getD_some, Nat.add_sub_cancel]
              rw [decide_eq_decide]
              omega
            repeat ((conv => whnf); first | with_reducible refine O_step ?_ | with_reducible refine S_step ?_ | with_reducible refine D_step ?_ | with_reducible refine RO.exit ?_ | with_reducible refine RO.ret ?_ | ((with_reducible refine And.intro ?sc ?_); case sc => exact side))
            intro zs hzs
            obtain rfl : zs = [(bitsC mp (n + 1)).getD j false] := by rw [hzs, ← hbit]; rfl
            have hjl : j < (bitsC mp (n + 1)).length := by omega
            have htk : (bitsC mp (n + 1)).take (j + 1) = (bitsC mp (n + 1)).take j ++ [(bitsC mp (n + 1)).getD j false] := by
              rw [List.take_succ_eq_append_getElem hjl, List.getD_eq_getElem?_getD, List.getElem?_eq_getElem hjl]; rfl
            repeat ((conv => whnf); first | with_reducible refine O_step ?_ | with_reducible refine S_step ?_ | with_reducible refine D_step ?_ | with_reducible refine RO.exit ?_ | with_reducible refine RO.ret ?_ | ((with_reducible refine And.intro ?sc ?_); case sc => exact side))
            intro c4 hc4
            repeat ((conv => whnf); first | with_reducible refine O_step ?_ | with_reducible refine S_step ?_ | with_reducible refine D_step ?_ | with_reducible refine RO.exit ?_ | with_reducible refine RO.ret ?_ | ((with_reducible refine And.intro ?sc ?_); case sc => exact side))
            refine RO.same (j + 1, g3 + 1, c4) ⟨by omega, by rw [htk, List.length_append]; exact hc4⟩ (show n + 1 - (j + 1) < n + 1 - j by omega) (And.intro rfl (And.intro rfl (And.intro rfl (And.intro rfl (And.intro rfl (And.intro rfl (And.intro ?_ (And.intro ?_ trivial)))))))) (And.intro rfl (And.intro rfl (And.intro rfl (And.intro ?_ trivial))))
            · show AV.sl 3 (g3 + 1) 0 (((bitsC mp (n + 1)).take j).length + 1) c4 = AV.sl 3 (g3 + 1) 0 ((bitsC mp (n + 1)).take (j + 1)).length c4
              rw [htk, List.length_append]; rfl
            · show AV.int .i64 ((n : Int) - (j : Int) - 1) = AV.int .i64 ((n : Int) - ((j + 1 : Nat) : Int))
              congr 1; omega
            · show AO.one true (g3 + 1) (.bools ((bitsC mp (n + 1)).take (j + 1)) c4) = AO.one true (g3 + 1) (.bools ((bitsC mp (n + 1)).take j ++ [(bitsC mp (n + 1)).getD j false]) c4)
              rw [htk]
          · have hj' : ¬ (0 : Int) ≤ (n : Int) - (j : Int) := by simpa using hj
            have hjn : (bitsC mp (n + 1)).take j = bitsC mp (n + 1) := List.take_of_length_le (by omega)
            have hul : us.length ≤ 6000 := by
              have := rowS_cnt ls (n + 1) (2 * np, ts) i
              rw [← i2] at this
              have h2 := tellS_cnt ls n
              rw [← n2] at h2
              have h3 : us.length ≤ ts.length + i := this
              have h4 : ts.length ≤ n * ls.length := h2
              have h5 : n * ls.length ≤ 15 * 320 := Nat.mul_le_mul n1 hl3
              omega
            repeat ((conv => whnf); first | with_reducible refine O_step ?_ | with_reducible refine S_step ?_ | with_reducible refine D_step ?_ | with_reducible refine RO.exit ?_ | with_reducible refine RO.ret ?_ | ((with_reducible refine And.intro ?sc ?_); case sc => exact side))
            refine And.intro (fun q hq => ?_) ?_
            · match q, hq with
              | 0, _ => exact ⟨rfl, rfl⟩
            refine And.intro ⟨by show us.length + 1 ≤ _; omega, by show (us.length + 1) * 32 ≤ _; omega⟩ ?_
            refine Exists.intro (fun q => if q < us.length then gT 1 cv us q else [.int .i64 (i : Int), .sl 3 g3 0 ((bitsC mp (n + 1)).take j).length c3]) (And.intro (fun q hq => ?_) (fun c1 hc1 => ?_))
            · by_cases hql : q < us.length
              · rw [if_pos hql]
                show (if q < us.length then _ else _) = _
                rw [if_pos hql]
              · have hq' : q < us.length + 1 := hq
                have hq2 : q - us.length = 0 := by omega
                rw [if_neg hql, hq2]
                show (if q < us.length then _ else _) = _
                rw [if_neg hql]
                rfl
            have hc1' : us.length + 1 ≤ c1 := hc1
            repeat ((conv => whnf); first | with_reducible refine O_step ?_ | with_reducible refine S_step ?_ | with_reducible refine D_step ?_ | with_reducible refine RO.exit ?_ | with_reducible refine RO.ret ?_ | ((with_reducible refine And.intro ?sc ?_); case sc => exact side))
            refine RO.mk (i + 1, mp + 1, us ++ [(i, mp, n + 1)], g + 1, c1, fun r => if r = us.length then c3 else cv r) [(0, .sl 0 0 0 ls.length c0), (5, .sl 2 (g + 1) 0 (us.length + 1) c1), (6, .int .i64 (mp : Int)), (7, .int .i64 ((n : Int) + 1)), (8, .int .i64 ((n : Int) + 1)), (9, .int .i64 ((i : Int) + 1))] _ ⟨by omega, hnew, nextJ_snoc, by rw [List.length_append]; exact hc1'⟩ (show ls.length - (i + 1) < ls.length - i by omega) (And.intro rfl (And.intro rfl (And.intro rfl (And.intro rfl (And.intro rfl (And.intro rfl (trivial))))))) rfl
              (Vw.freeze (iu := 1) (k := 3) (o := 2) (bF (us ++ [(i, mp, n + 1)]) (fun r => if r = us.length then c3 else cv r)) (gT 1 (fun r => if r = us.length then c3 else cv r) (us ++ [(i, mp, n + 1)])) rfl rfl rfl rfl ?_ ?_ ?_ ?_) ?_
            · intro r hr
              show Cont.bools (bitsC ((us ++ [(i, mp, n + 1)]).getD r default).2.1 ((us ++ [(i, mp, n + 1)]).getD r default).2.2) (if r = us.length then c3 else cv r) = Cont.bools _ _
              rw [getD_app hr, if_neg (Nat.ne_of_lt hr)]
            · show Cont.bools (bitsC ((us ++ [(i, mp, n + 1)]).getD us.length default).2.1 ((us ++ [(i, mp, n + 1)]).getD us.length default).2.2) (if us.length = us.length then c3 else cv us.length) = Cont.bools ((bitsC mp (n + 1)).take j) c3
              rw [getD_last, if_pos rfl, hjn]
            · intro r hr
              have hr' : r < us.length + 1 := hr
              show AV.rml _ [AV.int .i64 (((us ++ [(i, mp, n + 1)]).getD r default).1 : Int), AV.sl 1 r 0 ((us ++ [(i, mp, n + 1)]).getD r default).2.2 (if r = us.length then c3 else cv r)] = (if r < us.length then _ else _)
              by_cases hrl : r < us.length
              · rw [if_pos hrl, getD_app hrl, if_neg (Nat.ne_of_lt hrl)]
                simp only [AV.rml, AV.rm, phi1_ne (show ¬ (1 = 1 ∧ r = us.length) by omega)]
              · obtain rfl : r = us.length := by omega
                rw [if_neg hrl, getD_last, if_pos rfl, hjn, hbl]
                simp only [AV.rml, AV.rm, phi1_eq]
            · show AV.rml _ [AV.sl 0 0 0 ls.length c0, .sl 2 (g + 1) 0 (us ++ [(i, mp, n + 1)]).length c1, .int .i64 (lastC (us ++ [(i, mp, n + 1)]) : Int), .int .i64 (lastN (us ++ [(i, mp, n + 1)]) : Int), .int .i64 ((n : Int) + 1), .int .i64 ((i + 1 : Nat) : Int)] = [AV.sl 0 0 0 ls.length c0, .sl 2 (g + 1) 0 (us.length + 1) c1, .int .i64 (mp : Int), .int .i64 ((n : Int) + 1), .int .i64 ((n : Int) + 1), .int .i64 ((i : Int) + 1)]
              rw [List.length_append, lastC_snoc, lastN_snoc]
              rfl
            · refine And.intro rfl (And.intro ?_ (And.intro ?_ trivial))
              · show AO.fam true (us ++ [(i, mp, n + 1)]).length _ = AO.fam true (us.length + 1) _
                rw [List.length_append]; rfl
              · show tO 1 _ (g + 1) c1 (us ++ [(i, mp, n + 1)]) = AO.one true (g + 1) (.tab 2 (us.length + 1) _ c1)
                unfold tO
                rw [List.length_append]; rfl
        · have hne : us = [] := by
            have : ¬ (0 : Int) < us.length := by simpa using he
            exact List.eq_nil_of_length_eq_zero (by omega)
          have hm0 : mp = 0 := i3.1 hne
          have hlc : (lastC us : Int) = (mp : Int) := by rw [hne, hm0]; rfl
          repeat ((conv => whnf); first | with_reducible refine O_step ?_ | with_reducible refine S_step ?_ | with_reducible refine D_step ?_ | with_reducible refine RO.exit ?_ | with_reducible refine RO.ret ?_ | ((with_reducible refine And.intro ?sc ?_); case sc => exact side))
          refine WO.gov (σ := Nat × Nat × Nat) (fun (j, g3, c3) => j ≤ n + 1 ∧ ((bitsC mp (n + 1)).take j).length ≤ c3) (fun (j, _, _) => n + 1 - j)
            (fun (j, g3, c3) => [(0, .sl 0 0 0 ls.length c0), (5, .sl 2 g 0 us.length d), (6, .int .i64 (mp : Int)), (7, .int .i64 ((n : Int) + 1)), (8, .int .i64 ((n : Int) + 1)), (9, .int .i64 (i : Int)), (10, .sl 3 g3 0 ((bitsC mp (n + 1)).take j).length c3), (11, .int .i64 ((n : Int) - (j : Int)))])
            (fun (j, g3, c3) => [.one false 0 (.ints .u8 ls c), .fam true us.length (bF us cv), tO 1 cv g d us, .one true g3 (.bools ((bitsC mp (n + 1)).take j) c3)]) (0, 0, 0) tb_ok mixed (by kernel_rfl)
            [(0, .sl 0 0 0 ls.length c0), (5, .sl 2 g 0 us.length d), (6, .int .i64 ((lastC us : Int))), (7, .int .i64 ((n : Int) + 1)), (8, .int .i64 ((n : Int) + 1)), (9, .int .i64 (i : Int)), (10, .ns), (11, .int .i64 ((n : Int) + 1 - 1))] _ ⟨Nat.zero_le _, Nat.zero_le _⟩ (And.intro rfl (And.intro rfl (And.intro rfl (And.intro rfl (And.intro rfl (And.intro rfl (And.intro rfl (And.intro rfl (trivial))))))))) rfl
            (Vw.nils (x := .bools [] 0) ⟨rfl, rfl⟩ ?_) (And.intro rfl (And.intro rfl (And.intro rfl (And.intro rfl (trivial))))) (fun _ => rfl) (fun _ => rfl) (fun _ => ⟨trivial, fun _ => trivial, fun _ => rfl, trivial, trivial⟩) ?_
          · refine And.intro (.inl rfl) (And.intro (.inl rfl) (And.intro (.inl ?_) (And.intro (.inl rfl) (And.intro (.inl rfl) (And.intro (.inl rfl) (And.intro (.inr ⟨rfl, rfl⟩) (And.intro (.inl ?_) trivial)))))))
            · show AV.int .i64 (mp : Int) = AV.int .i64 _
              rw [hlc]
            · show AV.int .i64 ((n : Int) - ((0 : Nat) : Int)) = AV.int .i64 ((n : Int) + 1 - 1)
              congr 1; omega
          rintro ⟨j, g3, c3⟩ ⟨j1, j2⟩ d2
          have hbl := bitsC_len mp (n + 1)
          have htj : ((bitsC mp (n + 1)).take j).length = j := by rw [List.length_take]; omega
          repeat ((conv => whnf); first | with_reducible refine O_step ?_ | with_reducible refine S_step ?_ | with_reducible refine D_step ?_ | with_reducible refine RO.exit ?_ | with_reducible refine RO.ret ?_ | ((with_reducible refine And.intro ?sc ?_); case sc => exact side))
          refine And.intro (fun hj => ?_) (fun hj => ?_)
          · have hj' : (0 : Int) ≤ (n : Int) - (j : Int) := by simpa using hj
            have hsr : shrF .i64 (mp : Int) ((n : Int) - (j : Int)) = ((mp / 2 ^ (n - j) : Nat) : Int) := by
              rw [show (n : Int) - (j : Int) = ((n - j : Nat) : Int) by omega]
              exact shrK64 (by omega)
            have hbit : decide ((shrF .i64 (mp : Int) ((n : Int) - (j : Int))).tmod 2 = 1) = (bitsC mp (n + 1)).getD j false := by
              rw [hsr, Int.tmod_eq_emod_of_nonneg (Int.natCast_nonneg _)]
              have hjl : j < n + 1 := by omega
              simp only [bitsC, List.getD_eq_getElem?_getD, List.getElem?_map, List.getElem?_range hjl, Option.map_some, Option.getD_some, Nat.add_sub_cancel]
              rw [decide_eq_decide]
              omega
            repeat ((conv => whnf); first | with_reducible refine O_step ?_ | with_reducible refine S_step ?_ | with_reducible refine D_step ?_ | with_reducible refine RO.exit ?_ | with_reducible refine RO.ret ?_ | ((with_reducible refine And.intro ?sc ?_); case sc => exact side))
            intro zs hzs
            obtain rfl : zs = [(bitsC mp (n + 1)).getD j false] := by rw [hzs, ← hbit]; rfl
            have hjl : j < (bitsC mp (n + 1)).length := by omega
            have htk : (bitsC mp (n + 1)).take (j + 1) = (bitsC mp (n + 1)).take j ++ [(bitsC mp (n + 1)).getD j false] := by
              rw [List.take_succ_eq_append_getElem hjl, List.getD_eq_getElem?_getD, List.getElem?_eq_getElem hjl]; rfl
            repeat ((conv => whnf); first | with_reducible refine O_step ?_ | with_reducible refine S_step ?_ | with_reducible refine D_step ?_ | with_reducible refine RO.exit ?_ | with_reducible refine RO.ret ?_ | ((with_reducible refine And.intro ?sc ?_); case sc => exact side))
            intro c4 hc4
            repeat ((conv => whnf); first | with_reducible refine O_step ?_ | with_reducible refine S_step ?_ | with_reducible refine D_step ?_ | with_reducible refine RO.exit ?_ | with_reducible refine RO.ret ?_ | ((with_reducible refine And.intro ?sc ?_); case sc => exact side))
            refine RO.same (j + 1, g3 + 1, c4) ⟨by omega, by rw [htk, List.length_append]; exact hc4⟩ (show n + 1 - (j + 1) < n + 1 - j by omega) (And.intro rfl (And.intro rfl (And.intro rfl (And.intro rfl (And.intro rfl (And.intro rfl (And.intro ?_ (And.intro ?_ trivial)))))))) (And.intro rfl (And.intro rfl (And.intro rfl (And.intro ?_ trivial))))
            · show AV.sl 3 (g3 + 1) 0 (((bitsC mp (n + 1)).take j).length + 1) c4 = AV.sl 3 (g3 + 1) 0 ((bitsC mp (n + 1)).take (j + 1)).length c4
              rw [htk, List.length_append]; rfl
            · show AV.int .i64 ((n : Int) - (j : Int) - 1) = AV.int .i64 ((n : Int) - ((j + 1 : Nat) : Int))
              congr 1; omega
            · show AO.one true (g3 + 1) (.bools ((bitsC mp (n + 1)).take (j + 1)) c4) = AO.one true (g3 + 1) (.bools ((bitsC mp (n + 1)).take j ++ [(bitsC mp (n + 1)).getD j false]) c4)
              rw [htk]
          · have hj' : ¬ (0 : Int) ≤ (n : Int) - (j : Int) := by simpa using hj
            have hjn : (bitsC mp (n + 1)).take j = bitsC mp (n + 1) := List.take_of_length_le (by omega)
            have hul : us.length ≤ 6000 := by
              have := rowS_cnt ls (n + 1) (2 * np, ts) i
              rw [← i2] at this
              have h2 := tellS_cnt ls n
              rw [← n2] at h2
              have h3 : us.length ≤ ts.length + i := this
              have h4 : ts.length ≤ n * ls.length := h2
              have h5 : n * ls.length ≤ 15 * 320 := Nat.mul_le_mul n1 hl3
              omega
            repeat ((conv => whnf); first | with_reducible refine O_step ?_ | with_reducible refine S_step ?_ | with_reducible refine D_step ?_ | with_reducible refine RO.exit ?_ | with_reducible refine RO.ret ?_ | ((with_reducible refine And.intro ?sc ?_); case sc => exact side))
            refine And.intro (fun q hq => ?_) ?_
            · match q, hq with
              | 0, _ => exact ⟨rfl, rfl⟩
            refine And.intro ⟨by show us.length + 1 ≤ _; omega, by show (us.length + 1) * 32 ≤ _; omega⟩ ?_
            refine Exists.intro (fun q => if q < us.length then gT 1 cv us q else [.int .i64 (i : Int), .sl 3 g3 0 ((bitsC mp (n + 1)).take j).length c3]) (And.intro (fun q hq => ?_) (fun c1 hc1 => ?_))
            · by_cases hql : q < us.length
              · rw [if_pos hql]
                show (if q < us.length then _ else _) = _
                rw [if_pos hql]
              · have hq' : q < us.length + 1 := hq
                have hq2 : q - us.length = 0 := by omega
                rw [if_neg hql, hq2]
                show (if q < us.length then _ else _) = _
                rw [if_neg hql]
                rfl
            have hc1' : us.length + 1 ≤ c1 := hc1
            repeat ((conv => whnf); first | with_reducible refine O_step ?_ | with_reducible refine S_step ?_ | with_reducible refine D_step ?_ | with_reducible refine RO.exit ?_ | with_reducible refine RO.ret ?_ | ((with_reducible refine And.intro ?sc ?_); case sc => exact side))
            refine RO.mk (i + 1, mp + 1, us ++ [(i, mp, n + 1)], g + 1, c1, fun r => if r = us.length then c3 else cv r) [(0, .sl 0 0 0 ls.length c0), (5, .sl 2 (g + 1) 0 (us.length + 1) c1), (6, .int .i64 (mp : Int)), (7, .int .i64 ((n : Int) + 1)), (8, .int .i64 ((n : Int) + 1)), (9, .int .i64 ((i : Int) + 1))] _ ⟨by omega, hnew, nextJ_snoc, by rw [List.length_append]; exact hc1'⟩ (show ls.length - (i + 1) < ls.length - i by omega) (And.intro rfl (And.intro rfl (And.intro rfl (And.intro rfl (And.intro rfl (And.intro rfl (trivial))))))) rfl
              (Vw.freeze (iu := 1) (k := 3) (o := 2) (bF (us ++ [(i, mp, n + 1)]) (fun r => if r = us.length then c3 else cv r)) (gT 1 (fun r => if r = us.length then c3 else cv r) (us ++ [(i, mp, n + 1)])) rfl rfl rfl rfl ?_ ?_ ?_ ?_) ?_
            · intro r hr
              show Cont.bools (bitsC ((us ++ [(i, mp, n + 1)]).getD r default).2.1 ((us ++ [(i, mp, n + 1)]).getD r default).2.2) (if r = us.length then c3 else cv r) = Cont.bools _ _
              rw [getD_app hr, if_neg (Nat.ne_of_lt hr)]
            · show Cont.bools (bitsC ((us ++ [(i, mp, n + 1)]).getD us.length default).2.1 ((us ++ [(i, mp, n + 1)]).getD us.length default).2.2) (if us.length = us.length then c3 else cv us.length) = Cont.bools ((bitsC mp (n + 1)).take j) c3
              rw [getD_last, if_pos rfl, hjn]
            · intro r hr
              have hr' : r < us.length + 1 := hr
              show AV.rml _ [AV.int .i64 (((us ++ [(i, mp, n + 1)]).getD r default).1 : Int), AV.sl 1 r 0 ((us ++ [(i, mp, n + 1)]).getD r default).2.2 (if r = us.length then c3 else cv r)] = (if r < us.length then _ else _)
              by_cases hrl : r < us.length
              · rw [if_pos hrl, getD_app hrl, if_neg (Nat.ne_of_lt hrl)]
                simp only [AV.rml, AV.rm, phi1_ne (show ¬ (1 = 1 ∧ r = us.length) by omega)]
              · obtain rfl : r = us.length := by omega
                rw [if_neg hrl, getD_last, if_pos rfl, hjn, hbl]
                simp only [AV.rml, AV.rm, phi1_eq]
            · show AV.rml _ [AV.sl 0 0 0 ls.length c0, .sl 2 (g + 1) 0 (us ++ [(i, mp, n + 1)]).length c1, .int .i64 (lastC (us ++ [(i, mp, n + 1)]) : Int), .int .i64 (lastN (us ++ [(i, mp, n + 1)]) : Int), .int .i64 ((n : Int) + 1), .int .i64 ((i + 1 : Nat) : Int)] = [AV.sl 0 0 0 ls.length c0, .sl 2 (g + 1) 0 (us.length + 1) c1, .int .i64 (mp : Int), .int .i64 ((n : Int) + 1), .int .i64 ((n : Int) + 1), .int .i64 ((i : Int) + 1)]
              rw [List.length_append, lastC_snoc, lastN_snoc]
              rfl
            · refine And.intro rfl (And.intro ?_ (And.intro ?_ trivial))
              · show AO.fam true (us ++ [(i, mp, n + 1)]).length _ = AO.fam true (us.length + 1) _
                rw [List.length_append]; rfl
              · show tO 1 _ (g + 1) c1 (us ++ [(i, mp, n + 1)]) = AO.one true (g + 1) (.tab 2 (us.length + 1) _ c1)
                unfold tO
                rw [List.length_append]; rfl
    · have hil : i = ls.length := by simp only [decide_eq_false_iff_not] at hi; omega
      repeat ((conv => whnf); first | with_reducible refine O_step ?_ | with_reducible refine S_step ?_ | with_reducible refine D_step ?_ | with_reducible refine RO.exit ?_ | with_reducible refine RO.ret ?_ | ((with_reducible refine And.intro ?sc ?_); case sc => exact side))
      refine RO.same (n + 1, mp, us, g, d, cv) ⟨by omega, ?_, i3, i4⟩ (show 15 - (n + 1) < 15 - n by omega) (And.intro rfl (And.intro rfl (And.intro rfl (And.intro rfl (And.intro rfl (trivial)))))) (And.intro rfl (And.intro rfl (And.intro rfl (trivial))))
      rw [i2, hil]
      show rowS ls (n + 1) ls.length (2 * np, ts) = rowS ls (n + 1) ls.length (2 * (tellS ls n).1, (tellS ls n).2)
      rw [← n2]
  · have hn' : ¬ (n : Int) + 1 ≤ 15 := by simpa using hn
    have hn15 : n = 15 := by omega
    subst hn15
    have e : ts = allT ls := by rw [ht, ← n2]
    subst e
    repeat ((conv => whnf); first | with_reducible refine O_step ?_ | with_reducible refine S_step ?_ | with_reducible refine D_step ?_ | with_reducible refine RO.exit ?_ | with_reducible refine RO.ret ?_ | ((with_reducible refine And.intro ?sc ?_); case sc => exact side))
    exact ⟨_, _, Vw.refl _ _, g, d, cv, by rw [h1'], rfl, n4⟩
end

end Go.Proofs.Ytdnmbmnfglbfoaa
