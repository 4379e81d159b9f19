/- Layer 6: HuffKnown. -/
import Derived.Test.YtdnmbmnfglbfoaaLH7

import Derived.Test.YtdnmbmnfglbfoaaH27

import Derived.Test.YtdnmbmnfglbfoaaAbW

set_option linter.unusedVariables false

set_option linter.unusedSimpArgs false

open Go.RowKit

namespace Go.Proofs.Ytdnmbmnfglbfoaa

set_option maxRecDepth 10000

theorem kc0 : codesF [2, 1, 3, 3] = ([1, 0, 3, 7], 0) := by decide
theorem kc1 : codesF [1, 1, 1] = ([], 60) := by decide
theorem kc2 : codesF [2] = ([], 60) := by decide
theorem kc3 : codesF [1] = ([0], 0) := by decide
theorem kc4 : codesF [0, 0] = ([0, 0], 0) := by decide
theorem kc5 : codesF [] = ([], 0) := by decide
theorem kc6 : codesF [0, 1, 0] = ([0, 0, 0], 0) := by decide
theorem kc7 : codesF [1, 2] = ([], 60) := by decide
theorem kc8 : codesF [16] = ([], 1) := by decide
theorem kc11 : codesF [3, 3, 3, 3, 3, 2, 4, 4] = ([2, 6, 1, 5, 3, 0, 7, 15], 0) := by decide +kernel
theorem kc9 : codesF (List.replicate 321 0) = ([], 1) := by decide +kernel
theorem kc10 : codesF (List.replicate 320 0) = (List.replicate 320 0, 0) := by decide +kernel
theorem lx0 : lengthsF [1, 1, 2, 4] 15 = ([3, 3, 2, 1], 0) := by decide +kernel
theorem lx1 : lengthsF [0, 5] 3 = ([0, 1], 0) := by decide +kernel
theorem lx2 : lengthsF [1, 1, 1] 1 = ([], 60) := by decide +kernel
theorem lx3 : lengthsF [1] 0 = ([], 1) := by decide +kernel
theorem lx4 : lengthsF [1] 16 = ([], 1) := by decide +kernel
theorem lx5 : lengthsF [-1] 5 = ([], 1) := by decide +kernel
theorem lx6 : lengthsF [1099511627777] 5 = ([], 1) := by decide +kernel
theorem lx7 : lengthsF (List.replicate 321 0) 5 = ([], 1) := by decide +kernel
theorem lx8 : lengthsF [1099511627776, 1099511627776] 5 = ([1, 1], 0) := by decide +kernel
theorem lx9 : lengthsF [3, 3, 3, 1, 1, 1, 1, 9, 9] 4 = ((lengthsF [3, 3, 3, 1, 1, 1, 1, 9, 9] 4).1, 0) ∧ (lengthsF [3, 3, 3, 1, 1, 1, 1, 9, 9] 4).1.length = 9 := by decide +kernel
theorem kr0 : treadF (layM (tellS [2, 1, 3, 3] 15).2 []) (unpack [58]) 0 = (1, 1, 0) := by decide +kernel
theorem kr1 : treadF (layM (tellS [2, 1, 3, 3] 15).2 []) (unpack [58]) 1 = (0, 3, 0) := by decide +kernel
theorem kr2 : treadF (layM (tellS [2, 1, 3, 3] 15).2 []) (unpack [58]) 3 = (3, 6, 0) := by decide +kernel
theorem kr3 : treadF (layM (tellS [1] 15).2 []) (unpack [1]) 0 = (0, 1, 60) := by decide +kernel
theorem kr4 : treadF (layM (tellS [0] 15).2 []) (unpack [1]) 0 = (0, 0, 60) := by decide +kernel
theorem keyOk_tell {ls : List Int} (he : eachE ls = 0) : keyOk (layM (tellS ls 15).2 []) := by
  have := keyOk_all ls
  unfold allT at this
  rwa [if_pos he] at this
section

variable {M : AH} {K Kp : AV → AH → Prop}

theorem again_at (hK : K (.bo true) M) : CallA Try.prog 24 [] M K Kp :=
  CallA.at0 (v := .bo true) (again_call ⟨rfl, rfl⟩) (fun _ => rfl) rfl (fun _ => rfl) hK
/-- Codes of lengths whose codes are known. -/
theorem codes_is {i g n c0 co : Nat} {o : Bool} {ls cs : List Int} {e : Int} (h0 : codesF ls = (cs, e)) (hi : M[i]? = some (.one o g (.ints .u8 ls co))) (hn : n = ls.length) (hl : ls.length ≤ 2000) (hu : ∀ x ∈ ls, 0 ≤ x ∧ x < 256)
    (h : ∀ g' c', cs.length ≤ c' → K (.tup [.sl M.length g' 0 cs.length c', .int .i64 e]) (M ++ [.one true g' (.ints .u16 cs c')])) : CallA Try.prog 15 [.sl i g 0 n c0] M K Kp := by
  refine codes_at hi hn hl hu fun g' c' hc => ?_
  rw [h0] at hc ⊢
  exact h g' c' hc
theorem codes_nil (h : ∀ g' c', K (.tup [.sl (M.length + 1) g' 0 0 c', .int .i64 0]) (M ++ [.one true 0 (.ints .u8 [] 0)] ++ [.one true g' (.ints .u16 [] c')])) : CallA Try.prog 15 [.ns] M K Kp := by
  refine CallA.view (Vw.canon (x := .ints .u8 [] 0) ⟨rfl, rfl⟩ (l' := [.sl M.length 0 0 0 0]) (cnL_cons (by simp only [cnV]; exact .inr trivial) (cnL_nil _))) ?_
  refine codes_is (i := M.length) (o := true) (g := 0) (co := 0) (ls := []) kc5 (by simp) rfl (by decide) (fun x hx => by cases hx) fun g' c' _ => ?_
  have e : (M ++ [AO.one true 0 (.ints .u8 [] 0)]).length = M.length + 1 := by simp
  rw [e]
  exact h g' c'
theorem lengths_is {i g n c0 co : Nat} {o : Bool} {fr ls : List Int} {limit e : Int} (h0 : lengthsF fr limit = (ls, e)) (hi : M[i]? = some (.one o g (.ints .i64 fr co))) (hn : n = fr.length) (hl : fr.length ≤ 2000)
    (h : ∀ g' c', ls.length ≤ c' → K (.tup [.sl M.length g' 0 ls.length c', .int .i64 e]) (M ++ [.one true g' (.ints .u8 ls c')])) : CallA Try.prog 11 [.sl i g 0 n c0, .int .i64 limit] M K Kp := by
  refine lengths_at hi hn hl fun g' c' hc => ?_
  rw [h0] at hc ⊢
  exact h g' c' hc
end

def rowsK : List (List AV) := [[.sl 0 0 0 4 4, .sl 1 0 0 4 4, .int .i64 0], [.sl 2 0 0 3 3, .ns, .int .i64 60], [.sl 3 0 0 1 1, .ns, .int .i64 60], [.sl 4 0 0 1 1, .sl 5 0 0 1 1, .int .i64 0], [.sl 6 0 0 2 2, .sl 7 0 0 2 2, .int .i64 0], [.ns, .ns, .int .i64 0], [.sl 8 0 0 3 3, .sl 9 0 0 3 3, .int .i64 0], [.sl 10 0 0 2 2, .ns, .int .i64 60], [.sl 11 0 0 1 1, .ns, .int .i64 1], [.sl 12 0 0 321 321, .ns, .int .i64 1], [.sl 13 0 0 320 320, .sl 14 0 0 320 320, .int .i64 0], [.sl 15 0 0 8 8, .sl 16 0 0 8 8, .int .i64 0]]
def kH : AH := [.one true 0 (.ints .u8 [2, 1, 3, 3] 4), .one true 0 (.ints .u16 [1, 0, 3, 7] 4), .one true 0 (.ints .u8 [1, 1, 1] 3), .one true 0 (.ints .u8 [2] 1), .one true 0 (.ints .u8 [1] 1), .one true 0 (.ints .u16 [0] 1), .one true 0 (.ints .u8 [0, 0] 2), .one true 0 (.ints .u16 [0, 0] 2), .one true 0 (.ints .u8 [0, 1, 0] 3), .one true 0 (.ints .u16 [0, 0, 0] 3), .one true 0 (.ints .u8 [1, 2] 2), .one true 0 (.ints .u8 [16] 1), .one true 0 (.ints .u8 (List.replicate 321 0) 321), .one true 0 (.ints .u8 (List.replicate 320 0) 320), .one true 0 (.ints .u16 (List.replicate 320 0) 320), .one true 0 (.ints .u8 [3, 3, 3, 3, 3, 2, 4, 4] 8), .one true 0 (.ints .u16 [2, 6, 1, 5, 3, 0, 7, 15] 8), .one true 0 (.tab 3 12 (fun j => rowsK.getD j []) 12)]
theorem rep_u8 {n : Nat} : ∀ x ∈ List.replicate n (0 : Int), 0 ≤ x ∧ x < 256 := fun x hx => by obtain ⟨_, rfl⟩ := List.mem_replicate.1 hx; omega
theorem rowsK_nb18 : ∀ j, AV.nbl 18 (rowsK.getD j []) = true := by
  intro j
  rcases Nat.lt_or_ge j 12 with h | h
  · have : ∀ j, j < 12 → AV.nbl 18 (rowsK.getD j []) = true := by decide
    exact this j h
  · rw [List.getD_eq_getElem?_getD, List.getElem?_eq_none (show rowsK.length ≤ j from h)]; rfl
theorem rowsK_nb19 : ∀ j, AV.nbl 19 (rowsK.getD j []) = true := by
  intro j
  rcases Nat.lt_or_ge j 12 with h | h
  · have : ∀ j, j < 12 → AV.nbl 19 (rowsK.getD j []) = true := by decide
    exact this j h
  · rw [List.getD_eq_getElem?_getD, List.getElem?_eq_none (show rowsK.length ≤ j from h)]; rfl
theorem rowsK_nb20 : ∀ j, AV.nbl 20 (rowsK.getD j []) = true := by
  intro j
  rcases Nat.lt_or_ge j 12 with h | h
  · have : ∀ j, j < 12 → AV.nbl 20 (rowsK.getD j []) = true := by decide
    exact this j h
  · rw [List.getD_eq_getElem?_getD, List.getElem?_eq_none (show rowsK.length ≤ j from h)]; rfl
noncomputable abbrev ckn : Cx := cx9 (fun _ => [1, 5, 7, 9, 14, 16, 17, 18, 19]) []
def l3 (s : Nat × Nat) : List (Nat × AV) := [(26, .ptr 5 0 0), (27, .int .i64 1), (28, .int .i64 0), (29, .int .i64 0), (30, .int .i64 0), (31, .int .i64 3), (32, .int .i64 0)]
def H3 (s : Nat × Nat) : AH := [.gone, .gone, .gone, .gone, rb s.1 s.2 [58], ro 4 s.1 s.2 [58] 6]
section

variable {Q : AEx → AA → AH → Prop} {Kp : AV → AH → Prop}

set_option maxHeartbeats 4000000 in
theorem known1 : preK ckn (cutP (fun _ : Unit => []) (fun _ => [])) Q Kp 3 body9 (initA []) [] := by
  repeat ((conv => whnf); first | with_reducible refine O_step ?_ | with_reducible refine S_step ?_ | with_reducible refine D_step ?_ | with_reducible refine RO.exit ?_ | with_reducible refine RO.ret ?_ | ((with_reducible refine And.intro ?sc ?_); case sc => exact side) | ((with_reducible refine br_f ?sc ?_); case sc => exact sideB) | ((with_reducible refine br_t ?sc ?_); case sc => exact sideB))
  refine WO.gov (σ := Nat) (fun i => i ≤ 12) (fun i => 12 - i) (fun i => [(1, .sl 17 0 0 12 12), (2, .int .i64 (i : Int))]) (fun _ => kH) 0 tb_ok mixed (by kernel_rfl) [(1, .sl 17 0 0 12 12), (2, .int .i64 0)] _ (Nat.zero_le _) (And.intro rfl (And.intro rfl (trivial))) rfl
    (Vw.tab (i := 17) (fun j => rowsK.getD j []) rfl ?_) (And.intro rfl (And.intro rfl (And.intro rfl (And.intro rfl (And.intro rfl (And.intro rfl (And.intro rfl (And.intro rfl (And.intro rfl (And.intro rfl (And.intro rfl (And.intro rfl (And.intro rfl (And.intro rfl (And.intro rfl (And.intro rfl (And.intro rfl (And.intro rfl (trivial))))))))))))))))))) (fun _ => rfl) (fun _ => rfl) (fun _ => ?_) ?_
  · intro r hr
    refine congrArg (fun l => List.getD l r []) (?_ : rowsK = _)
    kernel_rfl
  · refine ⟨trivial, trivial, trivial, trivial, trivial, trivial, trivial, trivial, trivial, trivial, trivial, trivial, trivial, trivial, trivial, trivial, trivial, ?_, trivial⟩
    exact rowsK_nb18
  · intro i hi d
    have hi : i ≤ 12 := hi
    refine Or.elim (Nat.lt_or_ge i 12) (fun hl => ?_) (fun hl => ?_)
    · match i, hl with
      | 0, _ =>
        repeat ((conv => whnf); first | with_reducible refine O_step ?_ | with_reducible refine S_step ?_ | with_reducible refine D_step ?_ | with_reducible refine RO.exit ?_ | with_reducible refine RO.ret ?_ | ((with_reducible refine And.intro ?sc ?_); case sc => exact side) | ((with_reducible refine br_f ?sc ?_); case sc => exact sideB) | ((with_reducible refine br_t ?sc ?_); case sc => exact sideB))
        refine codes_is (i := 0) (ls := [2, 1, 3, 3]) kc0 rfl rfl (by decide) (by decide) fun g1 c1 hc1 => ?_
        repeat ((conv => whnf); first | with_reducible refine O_step ?_ | with_reducible refine S_step ?_ | with_reducible refine D_step ?_ | with_reducible refine RO.exit ?_ | with_reducible refine RO.ret ?_ | ((with_reducible refine And.intro ?sc ?_); case sc => exact side) | ((with_reducible refine br_f ?sc ?_); case sc => exact sideB) | ((with_reducible refine br_t ?sc ?_); case sc => exact sideB))
        refine WO.go (σ := Nat) (fun k => k ≤ 4) (fun k => 4 - k) (fun k => [(1, .sl 17 0 0 12 12), (2, .int .i64 ((0 : Nat) : Int)), (3, .sl 18 g1 0 4 c1), (5, .int .i64 (k : Int))])
          (fun _ => [.one true 0 (.ints .u8 [2, 1, 3, 3] 4), .one true 0 (.ints .u16 [1, 0, 3, 7] 4), .one true 0 (.ints .u8 [1, 1, 1] 3), .one true 0 (.ints .u8 [2] 1), .one true 0 (.ints .u8 [1] 1), .one true 0 (.ints .u16 [0] 1), .one true 0 (.ints .u8 [0, 0] 2), .one true 0 (.ints .u16 [0, 0] 2), .one true 0 (.ints .u8 [0, 1, 0] 3), .one true 0 (.ints .u16 [0, 0, 0] 3), .one true 0 (.ints .u8 [1, 2] 2), .one true 0 (.ints .u8 [16] 1), .one true 0 (.ints .u8 (List.replicate 321 0) 321), .one true 0 (.ints .u8 (List.replicate 320 0) 320), .one true 0 (.ints .u16 (List.replicate 320 0) 320), .one true 0 (.ints .u8 [3, 3, 3, 3, 3, 2, 4, 4] 8), .one true 0 (.ints .u16 [2, 6, 1, 5, 3, 0, 7, 15] 8), .one true 0 (.tab 3 12 (fun j => rowsK.getD j []) 12), .one true g1 (.ints .u16 [1, 0, 3, 7] c1)]) 0 tb_ok mixed (by kernel_rfl) (Nat.zero_le _) (And.intro rfl (And.intro rfl (And.intro rfl (And.intro rfl (trivial))))) (And.intro rfl (And.intro rfl (And.intro rfl (And.intro rfl (And.intro rfl (And.intro rfl (And.intro rfl (And.intro rfl (And.intro rfl (And.intro rfl (And.intro rfl (And.intro rfl (And.intro rfl (And.intro rfl (And.intro rfl (And.intro rfl (And.intro rfl (And.intro rfl (And.intro rfl (trivial)))))))))))))))))))) (fun _ => rfl) (fun _ => rfl) (fun _ => ⟨trivial, trivial, trivial, trivial, trivial, trivial, trivial, trivial, trivial, trivial, trivial, trivial, trivial, trivial, trivial, trivial, trivial, rowsK_nb19, trivial, trivial⟩) ?_
        intro k hk d2
        have hk : k ≤ 4 := hk
        repeat ((conv => whnf); first | with_reducible refine O_step ?_ | with_reducible refine S_step ?_ | with_reducible refine D_step ?_ | with_reducible refine RO.exit ?_ | with_reducible refine RO.ret ?_ | ((with_reducible refine And.intro ?sc ?_); case sc => exact side) | ((with_reducible refine br_f ?sc ?_); case sc => exact sideB) | ((with_reducible refine br_t ?sc ?_); case sc => exact sideB))
        refine And.intro (fun hq => ?_) (fun hq => ?_)
        · have hkl : k < 4 := by simp only [decide_eq_true_eq] at hq; omega
          repeat ((conv => whnf); first | with_reducible refine O_step ?_ | with_reducible refine S_step ?_ | with_reducible refine D_step ?_ | with_reducible refine RO.exit ?_ | with_reducible refine RO.ret ?_ | ((with_reducible refine And.intro ?sc ?_); case sc => exact side) | ((with_reducible refine br_f ?sc ?_); case sc => exact sideB) | ((with_reducible refine br_t ?sc ?_); case sc => exact sideB))
          refine RO.same (k + 1) (by show k + 1 ≤ _; omega) (show 4 - (k + 1) < 4 - k by omega) (And.intro rfl (And.intro rfl (And.intro rfl (And.intro rfl (trivial))))) (And.intro rfl (And.intro rfl (And.intro rfl (And.intro rfl (And.intro rfl (And.intro rfl (And.intro rfl (And.intro rfl (And.intro rfl (And.intro rfl (And.intro rfl (And.intro rfl (And.intro rfl (And.intro rfl (And.intro rfl (And.intro rfl (And.intro rfl (And.intro rfl (And.intro rfl (trivial))))))))))))))))))))
        · repeat ((conv => whnf); first | with_reducible refine O_step ?_ | with_reducible refine S_step ?_ | with_reducible refine D_step ?_ | with_reducible refine RO.exit ?_ | with_reducible refine RO.ret ?_ | ((with_reducible refine And.intro ?sc ?_); case sc => exact side) | ((with_reducible refine br_f ?sc ?_); case sc => exact sideB) | ((with_reducible refine br_t ?sc ?_); case sc => exact sideB))
          refine RO.same (0 + 1) (by decide) (by decide) (And.intro rfl (And.intro rfl (trivial))) (And.intro rfl (And.intro rfl (And.intro rfl (And.intro rfl (And.intro rfl (And.intro rfl (And.intro rfl (And.intro rfl (And.intro rfl (And.intro rfl (And.intro rfl (And.intro rfl (And.intro rfl (And.intro rfl (And.intro rfl (And.intro rfl (And.intro rfl (And.intro rfl (trivial)))))))))))))))))))
      | 1, _ =>
        repeat ((conv => whnf); first | with_reducible refine O_step ?_ | with_reducible refine S_step ?_ | with_reducible refine D_step ?_ | with_reducible refine RO.exit ?_ | with_reducible refine RO.ret ?_ | ((with_reducible refine And.intro ?sc ?_); case sc => exact side) | ((with_reducible refine br_f ?sc ?_); case sc => exact sideB) | ((with_reducible refine br_t ?sc ?_); case sc => exact sideB))
        refine codes_is (i := 2) (ls := [1, 1, 1]) kc1 rfl rfl (by decide) (by decide) fun g1 c1 hc1 => ?_
        repeat ((conv => whnf); first | with_reducible refine O_step ?_ | with_reducible refine S_step ?_ | with_reducible refine D_step ?_ | with_reducible refine RO.exit ?_ | with_reducible refine RO.ret ?_ | ((with_reducible refine And.intro ?sc ?_); case sc => exact side) | ((with_reducible refine br_f ?sc ?_); case sc => exact sideB) | ((with_reducible refine br_t ?sc ?_); case sc => exact sideB))
        refine WO.rounds 1 tb_ok mixed (by kernel_rfl) ?_
        repeat ((conv => whnf); first | with_reducible refine O_step ?_ | with_reducible refine S_step ?_ | with_reducible refine D_step ?_ | with_reducible refine RO.exit ?_ | with_reducible refine RO.ret ?_ | ((with_reducible refine And.intro ?sc ?_); case sc => exact side) | ((with_reducible refine br_f ?sc ?_); case sc => exact sideB) | ((with_reducible refine br_t ?sc ?_); case sc => exact sideB))
        refine RO.same (1 + 1) (by decide) (by decide) (And.intro rfl (And.intro rfl (trivial))) (And.intro rfl (And.intro rfl (And.intro rfl (And.intro rfl (And.intro rfl (And.intro rfl (And.intro rfl (And.intro rfl (And.intro rfl (And.intro rfl (And.intro rfl (And.intro rfl (And.intro rfl (And.intro rfl (And.intro rfl (And.intro rfl (And.intro rfl (And.intro rfl (trivial)))))))))))))))))))
      | 2, _ =>
        repeat ((conv => whnf); first | with_reducible refine O_step ?_ | with_reducible refine S_step ?_ | with_reducible refine D_step ?_ | with_reducible refine RO.exit ?_ | with_reducible refine RO.ret ?_ | ((with_reducible refine And.intro ?sc ?_); case sc => exact side) | ((with_reducible refine br_f ?sc ?_); case sc => exact sideB) | ((with_reducible refine br_t ?sc ?_); case sc => exact sideB))
        refine codes_is (i := 3) (ls := [2]) kc2 rfl rfl (by decide) (by decide) fun g1 c1 hc1 => ?_
        repeat ((conv => whnf); first | with_reducible refine O_step ?_ | with_reducible refine S_step ?_ | with_reducible refine D_step ?_ | with_reducible refine RO.exit ?_ | with_reducible refine RO.ret ?_ | ((with_reducible refine And.intro ?sc ?_); case sc => exact side) | ((with_reducible refine br_f ?sc ?_); case sc => exact sideB) | ((with_reducible refine br_t ?sc ?_); case sc => exact sideB))
        refine WO.rounds 1 tb_ok mixed (by kernel_rfl) ?_
        repeat ((conv => whnf); first | with_reducible refine O_step ?_ | with_reducible refine S_step ?_ | with_reducible refine D_step ?_ | with_reducible refine RO.exit ?_ | with_reducible refine RO.ret ?_ | ((with_reducible refine And.intro ?sc ?_); case sc => exact side) | ((with_reducible refine br_f ?sc ?_); case sc => exact sideB) | ((with_reducible refine br_t ?sc ?_); case sc => exact sideB))
        refine RO.same (2 + 1) (by decide) (by decide) (And.intro rfl (And.intro rfl (trivial))) (And.intro rfl (And.intro rfl (And.intro rfl (And.intro rfl (And.intro rfl (And.intro rfl (And.intro rfl (And.intro rfl (And.intro rfl (And.intro rfl (And.intro rfl (And.intro rfl (And.intro rfl (And.intro rfl (And.intro rfl (And.intro rfl (And.intro rfl (And.intro rfl (trivial)))))))))))))))))))
      | 3, _ =>
        repeat ((conv => whnf); first | with_reducible refine O_step ?_ | with_reducible refine S_step ?_ | with_reducible refine D_step ?_ | with_reducible refine RO.exit ?_ | with_reducible refine RO.ret ?_ | ((with_reducible refine And.intro ?sc ?_); case sc => exact side) | ((with_reducible refine br_f ?sc ?_); case sc => exact sideB) | ((with_reducible refine br_t ?sc ?_); case sc => exact sideB))
        refine codes_is (i := 4) (ls := [1]) kc3 rfl rfl (by decide) (by decide) fun g1 c1 hc1 => ?_
        repeat ((conv => whnf); first | with_reducible refine O_step ?_ | with_reducible refine S_step ?_ | with_reducible refine D_step ?_ | with_reducible refine RO.exit ?_ | with_reducible refine RO.ret ?_ | ((with_reducible refine And.intro ?sc ?_); case sc => exact side) | ((with_reducible refine br_f ?sc ?_); case sc => exact sideB) | ((with_reducible refine br_t ?sc ?_); case sc => exact sideB))
        refine WO.go (σ := Nat) (fun k => k ≤ 1) (fun k => 1 - k) (fun k => [(1, .sl 17 0 0 12 12), (2, .int .i64 ((3 : Nat) : Int)), (3, .sl 18 g1 0 1 c1), (5, .int .i64 (k : Int))])
          (fun _ => [.one true 0 (.ints .u8 [2, 1, 3, 3] 4), .one true 0 (.ints .u16 [1, 0, 3, 7] 4), .one true 0 (.ints .u8 [1, 1, 1] 3), .one true 0 (.ints .u8 [2] 1), .one true 0 (.ints .u8 [1] 1), .one true 0 (.ints .u16 [0] 1), .one true 0 (.ints .u8 [0, 0] 2), .one true 0 (.ints .u16 [0, 0] 2), .one true 0 (.ints .u8 [0, 1, 0] 3), .one true 0 (.ints .u16 [0, 0, 0] 3), .one true 0 (.ints .u8 [1, 2] 2), .one true 0 (.ints .u8 [16] 1), .one true 0 (.ints .u8 (List.replicate 321 0) 321), .one true 0 (.ints .u8 (List.replicate 320 0) 320), .one true 0 (.ints .u16 (List.replicate 320 0) 320), .one true 0 (.ints .u8 [3, 3, 3, 3, 3, 2, 4, 4] 8), .one true 0 (.ints .u16 [2, 6, 1, 5, 3, 0, 7, 15] 8), .one true 0 (.tab 3 12 (fun j => rowsK.getD j []) 12), .one true g1 (.ints .u16 [0] c1)]) 0 tb_ok mixed (by kernel_rfl) (Nat.zero_le _) (And.intro rfl (And.intro rfl (And.intro rfl (And.intro rfl (trivial))))) (And.intro rfl (And.intro rfl (And.intro rfl (And.intro rfl (And.intro rfl (And.intro rfl (And.intro rfl (And.intro rfl (And.intro rfl (And.intro rfl (And.intro rfl (And.intro rfl (And.intro rfl (And.intro rfl (And.intro rfl (And.intro rfl (And.intro rfl (And.intro rfl (And.intro rfl (trivial)))))))))))))))))))) (fun _ => rfl) (fun _ => rfl) (fun _ => ⟨trivial, trivial, trivial, trivial, trivial, trivial, trivial, trivial, trivial, trivial, trivial, trivial, trivial, trivial, trivial, trivial, trivial, rowsK_nb19, trivial, trivial⟩) ?_
        intro k hk d2
        have hk : k ≤ 1 := hk
        repeat ((conv => whnf); first | with_reducible refine O_step ?_ | with_reducible refine S_step ?_ | with_reducible refine D_step ?_ | with_reducible refine RO.exit ?_ | with_reducible refine RO.ret ?_ | ((with_reducible refine And.intro ?sc ?_); case sc => exact side) | ((with_reducible refine br_f ?sc ?_); case sc => exact sideB) | ((with_reducible refine br_t ?sc ?_); case sc => exact sideB))
        refine And.intro (fun hq => ?_) (fun hq => ?_)
        · have hkl : k < 1 := by simp only [decide_eq_true_eq] at hq; omega
          repeat ((conv => whnf); first | with_reducible refine O_step ?_ | with_reducible refine S_step ?_ | with_reducible refine D_step ?_ | with_reducible refine RO.exit ?_ | with_reducible refine RO.ret ?_ | ((with_reducible refine And.intro ?sc ?_); case sc => exact side) | ((with_reducible refine br_f ?sc ?_); case sc => exact sideB) | ((with_reducible refine br_t ?sc ?_); case sc => exact sideB))
          refine RO.same (k + 1) (by show k + 1 ≤ _; omega) (show 1 - (k + 1) < 1 - k by omega) (And.intro rfl (And.intro rfl (And.intro rfl (And.intro rfl (trivial))))) (And.intro rfl (And.intro rfl (And.intro rfl (And.intro rfl (And.intro rfl (And.intro rfl (And.intro rfl (And.intro rfl (And.intro rfl (And.intro rfl (And.intro rfl (And.intro rfl (And.intro rfl (And.intro rfl (And.intro rfl (And.intro rfl (And.intro rfl (And.intro rfl (And.intro rfl (trivial))))))))))))))))))))
        · repeat ((conv => whnf); first | with_reducible refine O_step ?_ | with_reducible refine S_step ?_ | with_reducible refine D_step ?_ | with_reducible refine RO.exit ?_ | with_reducible refine RO.ret ?_ | ((with_reducible refine And.intro ?sc ?_); case sc => exact side) | ((with_reducible refine br_f ?sc ?_); case sc => exact sideB) | ((with_reducible refine br_t ?sc ?_); case sc => exact sideB))
          refine RO.same (3 + 1) (by decide) (by decide) (And.intro rfl (And.intro rfl (trivial))) (And.intro rfl (And.intro rfl (And.intro rfl (And.intro rfl (And.intro rfl (And.intro rfl (And.intro rfl (And.intro rfl (And.intro rfl (And.intro rfl (And.intro rfl (And.intro rfl (And.intro rfl (And.intro rfl (And.intro rfl (And.intro rfl (And.intro rfl (And.intro rfl (trivial)))))))))))))))))))
      | 4, _ =>
        repeat ((conv => whnf); first | with_reducible refine O_step ?_ | with_reducible refine S_step ?_ | with_reducible refine D_step ?_ | with_reducible refine RO.exit ?_ | with_reducible refine RO.ret ?_ | ((with_reducible refine And.intro ?sc ?_); case sc => exact side) | ((with_reducible refine br_f ?sc ?_); case sc => exact sideB) | ((with_reducible refine br_t ?sc ?_); case sc => exact sideB))
        refine codes_is (i := 6) (ls := [0, 0]) kc4 rfl rfl (by decide) (by decide) fun g1 c1 hc1 => ?_
        repeat ((conv => whnf); first | with_reducible refine O_step ?_ | with_reducible refine S_step ?_ | with_reducible refine D_step ?_ | with_reducible refine RO.exit ?_ | with_reducible refine RO.ret ?_ | ((with_reducible refine And.intro ?sc ?_); case sc => exact side) | ((with_reducible refine br_f ?sc ?_); case sc => exact sideB) | ((with_reducible refine br_t ?sc ?_); case sc => exact sideB))
        refine WO.go (σ := Nat) (fun k => k ≤ 2) (fun k => 2 - k) (fun k => [(1, .sl 17 0 0 12 12), (2, .int .i64 ((4 : Nat) : Int)), (3, .sl 18 g1 0 2 c1), (5, .int .i64 (k : Int))])
          (fun _ => [.one true 0 (.ints .u8 [2, 1, 3, 3] 4), .one true 0 (.ints .u16 [1, 0, 3, 7] 4), .one true 0 (.ints .u8 [1, 1, 1] 3), .one true 0 (.ints .u8 [2] 1), .one true 0 (.ints .u8 [1] 1), .one true 0 (.ints .u16 [0] 1), .one true 0 (.ints .u8 [0, 0] 2), .one true 0 (.ints .u16 [0, 0] 2), .one true 0 (.ints .u8 [0, 1, 0] 3), .one true 0 (.ints .u16 [0, 0, 0] 3), .one true 0 (.ints .u8 [1, 2] 2), .one true 0 (.ints .u8 [16] 1), .one true 0 (.ints .u8 (List.replicate 321 0) 321), .one true 0 (.ints .u8 (List.replicate 320 0) 320), .one true 0 (.ints .u16 (List.replicate 320 0) 320), .one true 0 (.ints .u8 [3, 3, 3, 3, 3, 2, 4, 4] 8), .one true 0 (.ints .u16 [2, 6, 1, 5, 3, 0, 7, 15] 8), .one true 0 (.tab 3 12 (fun j => rowsK.getD j []) 12), .one true g1 (.ints .u16 [0, 0] c1)]) 0 tb_ok mixed (by kernel_rfl) (Nat.zero_le _) (And.intro rfl (And.intro rfl (And.intro rfl (And.intro rfl (trivial))))) (And.intro rfl (And.intro rfl (And.intro rfl (And.intro rfl (And.intro rfl (And.intro rfl (And.intro rfl (And.intro rfl (And.intro rfl (And.intro rfl (And.intro rfl (And.intro rfl (And.intro rfl (And.intro rfl (And.intro rfl (And.intro rfl (And.intro rfl (And.intro rfl (And.intro rfl (trivial)))))))))))))))))))) (fun _ => rfl) (fun _ => rfl) (fun _ => ⟨trivial, trivial, trivial, trivial, trivial, trivial, trivial, trivial, trivial, trivial, trivial, trivial, trivial, trivial, trivial, trivial, trivial, rowsK_nb19, trivial, trivial⟩) ?_
        intro k hk d2
        have hk : k ≤ 2 := hk
        repeat ((conv => whnf); first | with_reducible refine O_step ?_ | with_reducible refine S_step ?_ | with_reducible refine D_step ?_ | with_reducible refine RO.exit ?_ | with_reducible refine RO.ret ?_ | ((with_reducible refine And.intro ?sc ?_); case sc => exact side) | ((with_reducible refine br_f ?sc ?_); case sc => exact sideB) | ((with_reducible refine br_t ?sc ?_); case sc => exact sideB))
        refine And.intro (fun hq => ?_) (fun hq => ?_)
        · have hkl : k < 2 := by simp only [decide_eq_true_eq] at hq; omega
          repeat ((conv => whnf); first | with_reducible refine O_step ?_ | with_reducible refine S_step ?_ | with_reducible refine D_step ?_ | with_reducible refine RO.exit ?_ | with_reducible refine RO.ret ?_ | ((with_reducible refine And.intro ?sc ?_); case sc => exact side) | ((with_reducible refine br_f ?sc ?_); case sc => exact sideB) | ((with_reducible refine br_t ?sc ?_); case sc => exact sideB))
          refine RO.same (k + 1) (by show k + 1 ≤ _; omega) (show 2 - (k + 1) < 2 - k by omega) (And.intro rfl (And.intro rfl (And.intro rfl (And.intro rfl (trivial))))) (And.intro rfl (And.intro rfl (And.intro rfl (And.intro rfl (And.intro rfl (And.intro rfl (And.intro rfl (And.intro rfl (And.intro rfl (And.intro rfl (And.intro rfl (And.intro rfl (And.intro rfl (And.intro rfl (And.intro rfl (And.intro rfl (And.intro rfl (And.intro rfl (And.intro rfl (trivial))))))))))))))))))))
        · repeat ((conv => whnf); first | with_reducible refine O_step ?_ | with_reducible refine S_step ?_ | with_reducible refine D_step ?_ | with_reducible refine RO.exit ?_ | with_reducible refine RO.ret ?_ | ((with_reducible refine And.intro ?sc ?_); case sc => exact side) | ((with_reducible refine br_f ?sc ?_); case sc => exact sideB) | ((with_reducible refine br_t ?sc ?_); case sc => exact sideB))
          refine RO.same (4 + 1) (by decide) (by decide) (And.intro rfl (And.intro rfl (trivial))) (And.intro rfl (And.intro rfl (And.intro rfl (And.intro rfl (And.intro rfl (And.intro rfl (And.intro rfl (And.intro rfl (And.intro rfl (And.intro rfl (And.intro rfl (And.intro rfl (And.intro rfl (And.intro rfl (And.intro rfl (And.intro rfl (And.intro rfl (And.intro rfl (trivial)))))))))))))))))))
      | 5, _ =>
        repeat ((conv => whnf); first | with_reducible refine O_step ?_ | with_reducible refine S_step ?_ | with_reducible refine D_step ?_ | with_reducible refine RO.exit ?_ | with_reducible refine RO.ret ?_ | ((with_reducible refine And.intro ?sc ?_); case sc => exact side) | ((with_reducible refine br_f ?sc ?_); case sc => exact sideB) | ((with_reducible refine br_t ?sc ?_); case sc => exact sideB))
        refine codes_nil fun g1 c1 => ?_
        repeat ((conv => whnf); first | with_reducible refine O_step ?_ | with_reducible refine S_step ?_ | with_reducible refine D_step ?_ | with_reducible refine RO.exit ?_ | with_reducible refine RO.ret ?_ | ((with_reducible refine And.intro ?sc ?_); case sc => exact side) | ((with_reducible refine br_f ?sc ?_); case sc => exact sideB) | ((with_reducible refine br_t ?sc ?_); case sc => exact sideB))
        refine WO.rounds 1 tb_ok mixed (by kernel_rfl) ?_
        repeat ((conv => whnf); first | with_reducible refine O_step ?_ | with_reducible refine S_step ?_ | with_reducible refine D_step ?_ | with_reducible refine RO.exit ?_ | with_reducible refine RO.ret ?_ | ((with_reducible refine And.intro ?sc ?_); case sc => exact side) | ((with_reducible refine br_f ?sc ?_); case sc => exact sideB) | ((with_reducible refine br_t ?sc ?_); case sc => exact sideB))
        refine RO.same (5 + 1) (by decide) (by decide) (And.intro rfl (And.intro rfl (trivial))) (And.intro rfl (And.intro rfl (And.intro rfl (And.intro rfl (And.intro rfl (And.intro rfl (And.intro rfl (And.intro rfl (And.intro rfl (And.intro rfl (And.intro rfl (And.intro rfl (And.intro rfl (And.intro rfl (And.intro rfl (And.intro rfl (And.intro rfl (And.intro rfl (trivial)))))))))))))))))))
      | 6, _ =>
        repeat ((conv => whnf); first | with_reducible refine O_step ?_ | with_reducible refine S_step ?_ | with_reducible refine D_step ?_ | with_reducible refine RO.exit ?_ | with_reducible refine RO.ret ?_ | ((with_reducible refine And.intro ?sc ?_); case sc => exact side) | ((with_reducible refine br_f ?sc ?_); case sc => exact sideB) | ((with_reducible refine br_t ?sc ?_); case sc => exact sideB))
        refine codes_is (i := 8) (ls := [0, 1, 0]) kc6 rfl rfl (by decide) (by decide) fun g1 c1 hc1 => ?_
        repeat ((conv => whnf); first | with_reducible refine O_step ?_ | with_reducible refine S_step ?_ | with_reducible refine D_step ?_ | with_reducible refine RO.exit ?_ | with_reducible refine RO.ret ?_ | ((with_reducible refine And.intro ?sc ?_); case sc => exact side) | ((with_reducible refine br_f ?sc ?_); case sc => exact sideB) | ((with_reducible refine br_t ?sc ?_); case sc => exact sideB))
        refine WO.go (σ := Nat) (fun k => k ≤ 3) (fun k => 3 - k) (fun k => [(1, .sl 17 0 0 12 12), (2, .int .i64 ((6 : Nat) : Int)), (3, .sl 18 g1 0 3 c1), (5, .int .i64 (k : Int))])
          (fun _ => [.one true 0 (.ints .u8 [2, 1, 3, 3] 4), .one true 0 (.ints .u16 [1, 0, 3, 7] 4), .one true 0 (.ints .u8 [1, 1, 1] 3), .one true 0 (.ints .u8 [2] 1), .one true 0 (.ints .u8 [1] 1), .one true 0 (.ints .u16 [0] 1), .one true 0 (.ints .u8 [0, 0] 2), .one true 0 (.ints .u16 [0, 0] 2), .one true 0 (.ints .u8 [0, 1, 0] 3), .one true 0 (.ints .u16 [0, 0, 0] 3), .one true 0 (.ints .u8 [1, 2] 2), .one true 0 (.ints .u8 [16] 1), .one true 0 (.ints .u8 (List.replicate 321 0) 321), .one true 0 (.ints .u8 (List.replicate 320 0) 320), .one true 0 (.ints .u16 (List.replicate 320 0) 320), .one true 0 (.ints .u8 [3, 3, 3, 3, 3, 2, 4, 4] 8), .one true 0 (.ints .u16 [2, 6, 1, 5, 3, 0, 7, 15] 8), .one true 0 (.tab 3 12 (fun j => rowsK.getD j []) 12), .one true g1 (.ints .u16 [0, 0, 0] c1)]) 0 tb_ok mixed (by kernel_rfl) (Nat.zero_le _) (And.intro rfl (And.intro rfl (And.intro rfl (And.intro rfl (trivial))))) (And.intro rfl (And.intro rfl (And.intro rfl (And.intro rfl (And.intro rfl (And.intro rfl (And.intro rfl (And.intro rfl (And.intro rfl (And.intro rfl (And.intro rfl (And.intro rfl (And.intro rfl (And.intro rfl (And.intro rfl (And.intro rfl (And.intro rfl (And.intro rfl (And.intro rfl (trivial)))))))))))))))))))) (fun _ => rfl) (fun _ => rfl) (fun _ => ⟨trivial, trivial, trivial, trivial, trivial, trivial, trivial, trivial, trivial, trivial, trivial, trivial, trivial, trivial, trivial, trivial, trivial, rowsK_nb19, trivial, trivial⟩) ?_
        intro k hk d2
        have hk : k ≤ 3 := hk
        repeat ((conv => whnf); first | with_reducible refine O_step ?_ | with_reducible refine S_step ?_ | with_reducible refine D_step ?_ | with_reducible refine RO.exit ?_ | with_reducible refine RO.ret ?_ | ((with_reducible refine And.intro ?sc ?_); case sc => exact side) | ((with_reducible refine br_f ?sc ?_); case sc => exact sideB) | ((with_reducible refine br_t ?sc ?_); case sc => exact sideB))
        refine And.intro (fun hq => ?_) (fun hq => ?_)
        · have hkl : k < 3 := by simp only [decide_eq_true_eq] at hq; omega
          repeat ((conv => whnf); first | with_reducible refine O_step ?_ | with_reducible refine S_step ?_ | with_reducible refine D_step ?_ | with_reducible refine RO.exit ?_ | with_reducible refine RO.ret ?_ | ((with_reducible refine And.intro ?sc ?_); case sc => exact side) | ((with_reducible refine br_f ?sc ?_); case sc => exact sideB) | ((with_reducible refine br_t ?sc ?_); case sc => exact sideB))
          refine RO.same (k + 1) (by show k + 1 ≤ _; omega) (show 3 - (k + 1) < 3 - k by omega) (And.intro rfl (And.intro rfl (And.intro rfl (And.intro rfl (trivial))))) (And.intro rfl (And.intro rfl (And.intro rfl (And.intro rfl (And.intro rfl (And.intro rfl (And.intro rfl (And.intro rfl (And.intro rfl (And.intro rfl (And.intro rfl (And.intro rfl (And.intro rfl (And.intro rfl (And.intro rfl (And.intro rfl (And.intro rfl (And.intro rfl (And.intro rfl (trivial))))))))))))))))))))
        · repeat ((conv => whnf); first | with_reducible refine O_step ?_ | with_reducible refine S_step ?_ | with_reducible refine D_step ?_ | with_reducible refine RO.exit ?_ | with_reducible refine RO.ret ?_ | ((with_reducible refine And.intro ?sc ?_); case sc => exact side) | ((with_reducible refine br_f ?sc ?_); case sc => exact sideB) | ((with_reducible refine br_t ?sc ?_); case sc => exact sideB))
          refine RO.same (6 + 1) (by decide) (by decide) (And.intro rfl (And.intro rfl (trivial))) (And.intro rfl (And.intro rfl (And.intro rfl (And.intro rfl (And.intro rfl (And.intro rfl (And.intro rfl (And.intro rfl (And.intro rfl (And.intro rfl (And.intro rfl (And.intro rfl (And.intro rfl (And.intro rfl (And.intro rfl (And.intro rfl (And.intro rfl (And.intro rfl (trivial)))))))))))))))))))
      | 7, _ =>
        repeat ((conv => whnf); first | with_reducible refine O_step ?_ | with_reducible refine S_step ?_ | with_reducible refine D_step ?_ | with_reducible refine RO.exit ?_ | with_reducible refine RO.ret ?_ | ((with_reducible refine And.intro ?sc ?_); case sc => exact side) | ((with_reducible refine br_f ?sc ?_); case sc => exact sideB) | ((with_reducible refine br_t ?sc ?_); case sc => exact sideB))
        refine codes_is (i := 10) (ls := [1, 2]) kc7 rfl rfl (by decide) (by decide) fun g1 c1 hc1 => ?_
        repeat ((conv => whnf); first | with_reducible refine O_step ?_ | with_reducible refine S_step ?_ | with_reducible refine D_step ?_ | with_reducible refine RO.exit ?_ | with_reducible refine RO.ret ?_ | ((with_reducible refine And.intro ?sc ?_); case sc => exact side) | ((with_reducible refine br_f ?sc ?_); case sc => exact sideB) | ((with_reducible refine br_t ?sc ?_); case sc => exact sideB))
        refine WO.rounds 1 tb_ok mixed (by kernel_rfl) ?_
        repeat ((conv => whnf); first | with_reducible refine O_step ?_ | with_reducible refine S_step ?_ | with_reducible refine D_step ?_ | with_reducible refine RO.exit ?_ | with_reducible refine RO.ret ?_ | ((with_reducible refine And.intro ?sc ?_); case sc => exact side) | ((with_reducible refine br_f ?sc ?_); case sc => exact sideB) | ((with_reducible refine br_t ?sc ?_); case sc => exact sideB))
        refine RO.same (7 + 1) (by decide) (by decide) (And.intro rfl (And.intro rfl (trivial))) (And.intro rfl (And.intro rfl (And.intro rfl (And.intro rfl (And.intro rfl (And.intro rfl (And.intro rfl (And.intro rfl (And.intro rfl (And.intro rfl (And.intro rfl (And.intro rfl (And.intro rfl (And.intro rfl (And.intro rfl (And.intro rfl (And.intro rfl (And.intro rfl (trivial)))))))))))))))))))
      | 8, _ =>
        repeat ((conv => whnf); first | with_reducible refine O_step ?_ | with_reducible refine S_step ?_ | with_reducible refine D_step ?_ | with_reducible refine RO.exit ?_ | with_reducible refine RO.ret ?_ | ((with_reducible refine And.intro ?sc ?_); case sc => exact side) | ((with_reducible refine br_f ?sc ?_); case sc => exact sideB) | ((with_reducible refine br_t ?sc ?_); case sc => exact sideB))
        refine codes_is (i := 11) (ls := [16]) kc8 rfl rfl (by decide) (by decide) fun g1 c1 hc1 => ?_
        repeat ((conv => whnf); first | with_reducible refine O_step ?_ | with_reducible refine S_step ?_ | with_reducible refine D_step ?_ | with_reducible refine RO.exit ?_ | with_reducible refine RO.ret ?_ | ((with_reducible refine And.intro ?sc ?_); case sc => exact side) | ((with_reducible refine br_f ?sc ?_); case sc => exact sideB) | ((with_reducible refine br_t ?sc ?_); case sc => exact sideB))
        refine WO.rounds 1 tb_ok mixed (by kernel_rfl) ?_
        repeat ((conv => whnf); first | with_reducible refine O_step ?_ | with_reducible refine S_step ?_ | with_reducible refine D_step ?_ | with_reducible refine RO.exit ?_ | with_reducible refine RO.ret ?_ | ((with_reducible refine And.intro ?sc ?_); case sc => exact side) | ((with_reducible refine br_f ?sc ?_); case sc => exact sideB) | ((with_reducible refine br_t ?sc ?_); case sc => exact sideB))
        refine RO.same (8 + 1) (by decide) (by decide) (And.intro rfl (And.intro rfl (trivial))) (And.intro rfl (And.intro rfl (And.intro rfl (And.intro rfl (And.intro rfl (And.intro rfl (And.intro rfl (And.intro rfl (And.intro rfl (And.intro rfl (And.intro rfl (And.intro rfl (And.intro rfl (And.intro rfl (And.intro rfl (And.intro rfl (And.intro rfl (And.intro rfl (trivial)))))))))))))))))))
      | 9, _ =>
        repeat ((conv => whnf); first | with_reducible refine O_step ?_ | with_reducible refine S_step ?_ | with_reducible refine D_step ?_ | with_reducible refine RO.exit ?_ | with_reducible refine RO.ret ?_ | ((with_reducible refine And.intro ?sc ?_); case sc => exact side) | ((with_reducible refine br_f ?sc ?_); case sc => exact sideB) | ((with_reducible refine br_t ?sc ?_); case sc => exact sideB))
        refine codes_is (i := 12) (ls := (List.replicate 321 0)) kc9 rfl rfl (by decide) (by exact rep_u8) fun g1 c1 hc1 => ?_
        repeat ((conv => whnf); first | with_reducible refine O_step ?_ | with_reducible refine S_step ?_ | with_reducible refine D_step ?_ | with_reducible refine RO.exit ?_ | with_reducible refine RO.ret ?_ | ((with_reducible refine And.intro ?sc ?_); case sc => exact side) | ((with_reducible refine br_f ?sc ?_); case sc => exact sideB) | ((with_reducible refine br_t ?sc ?_); case sc => exact sideB))
        refine WO.rounds 1 tb_ok mixed (by kernel_rfl) ?_
        repeat ((conv => whnf); first | with_reducible refine O_step ?_ | with_reducible refine S_step ?_ | with_reducible refine D_step ?_ | with_reducible refine RO.exit ?_ | with_reducible refine RO.ret ?_ | ((with_reducible refine And.intro ?sc ?_); case sc => exact side) | ((with_reducible refine br_f ?sc ?_); case sc => exact sideB) | ((with_reducible refine br_t ?sc ?_); case sc => exact sideB))
        refine RO.same (9 + 1) (by decide) (by decide) (And.intro rfl (And.intro rfl (trivial))) (And.intro rfl (And.intro rfl (And.intro rfl (And.intro rfl (And.intro rfl (And.intro rfl (And.intro rfl (And.intro rfl (And.intro rfl (And.intro rfl (And.intro rfl (And.intro rfl (And.intro rfl (And.intro rfl (And.intro rfl (And.intro rfl (And.intro rfl (And.intro rfl (trivial)))))))))))))))))))
      | 10, _ =>
        repeat ((conv => whnf); first | with_reducible refine O_step ?_ | with_reducible refine S_step ?_ | with_reducible refine D_step ?_ | with_reducible refine RO.exit ?_ | with_reducible refine RO.ret ?_ | ((with_reducible refine And.intro ?sc ?_); case sc => exact side) | ((with_reducible refine br_f ?sc ?_); case sc => exact sideB) | ((with_reducible refine br_t ?sc ?_); case sc => exact sideB))
        refine codes_is (i := 13) (ls := (List.replicate 320 0)) kc10 rfl rfl (by decide) (by exact rep_u8) fun g1 c1 hc1 => ?_
        repeat ((conv => whnf); first | with_reducible refine O_step ?_ | with_reducible refine S_step ?_ | with_reducible refine D_step ?_ | with_reducible refine RO.exit ?_ | with_reducible refine RO.ret ?_ | ((with_reducible refine And.intro ?sc ?_); case sc => exact side) | ((with_reducible refine br_f ?sc ?_); case sc => exact sideB) | ((with_reducible refine br_t ?sc ?_); case sc => exact sideB))
        refine WO.go (σ := Nat) (fun k => k ≤ 320) (fun k => 320 - k) (fun k => [(1, .sl 17 0 0 12 12), (2, .int .i64 ((10 : Nat) : Int)), (3, .sl 18 g1 0 320 c1), (5, .int .i64 (k : Int))])
          (fun _ => [.one true 0 (.ints .u8 [2, 1, 3, 3] 4), .one true 0 (.ints .u16 [1, 0, 3, 7] 4), .one true 0 (.ints .u8 [1, 1, 1] 3), .one true 0 (.ints .u8 [2] 1), .one true 0 (.ints .u8 [1] 1), .one true 0 (.ints .u16 [0] 1), .one true 0 (.ints .u8 [0, 0] 2), .one true 0 (.ints .u16 [0, 0] 2), .one true 0 (.ints .u8 [0, 1, 0] 3), .one true 0 (.ints .u16 [0, 0, 0] 3), .one true 0 (.ints .u8 [1, 2] 2), .one true 0 (.ints .u8 [16] 1), .one true 0 (.ints .u8 (List.replicate 321 0) 321), .one true 0 (.ints .u8 (List.replicate 320 0) 320), .one true 0 (.ints .u16 (List.replicate 320 0) 320), .one true 0 (.ints .u8 [3, 3, 3, 3, 3, 2, 4, 4] 8), .one true 0 (.ints .u16 [2, 6, 1, 5, 3, 0, 7, 15] 8), .one true 0 (.tab 3 12 (fun j => rowsK.getD j []) 12), .one true g1 (.ints .u16 (List.replicate 320 0) c1)]) 0 tb_ok mixed (by kernel_rfl) (Nat.zero_le _) (And.intro rfl (And.intro rfl (And.intro rfl (And.intro rfl (trivial))))) (And.intro rfl (And.intro rfl (And.intro rfl (And.intro rfl (And.intro rfl (And.intro rfl (And.intro rfl (And.intro rfl (And.intro rfl (And.intro rfl (And.intro rfl (And.intro rfl (And.intro rfl (And.intro rfl (And.intro rfl (And.intro rfl (And.intro rfl (And.intro rfl (And.intro rfl (trivial)))))))))))))))))))) (fun _ => rfl) (fun _ => rfl) (fun _ => ⟨trivial, trivial, trivial, trivial, trivial, trivial, trivial, trivial, trivial, trivial, trivial, trivial, trivial, trivial, trivial, trivial, trivial, rowsK_nb19, trivial, trivial⟩) ?_
        intro k hk d2
        have hk : k ≤ 320 := hk
        repeat ((conv => whnf); first | with_reducible refine O_step ?_ | with_reducible refine S_step ?_ | with_reducible refine D_step ?_ | with_reducible refine RO.exit ?_ | with_reducible refine RO.ret ?_ | ((with_reducible refine And.intro ?sc ?_); case sc => exact side) | ((with_reducible refine br_f ?sc ?_); case sc => exact sideB) | ((with_reducible refine br_t ?sc ?_); case sc => exact sideB))
        refine And.intro (fun hq => ?_) (fun hq => ?_)
        · have hkl : k < 320 := by simp only [decide_eq_true_eq] at hq; omega
          repeat ((conv => whnf); first | with_reducible refine O_step ?_ | with_reducible refine S_step ?_ | with_reducible refine D_step ?_ | with_reducible refine RO.exit ?_ | with_reducible refine RO.ret ?_ | ((with_reducible refine And.intro ?sc ?_); case sc => exact side) | ((with_reducible refine br_f ?sc ?_); case sc => exact sideB) | ((with_reducible refine br_t ?sc ?_); case sc => exact sideB))
          refine RO.same (k + 1) (by show k + 1 ≤ _; omega) (show 320 - (k + 1) < 320 - k by omega) (And.intro rfl (And.intro rfl (And.intro rfl (And.intro rfl (trivial))))) (And.intro rfl (And.intro rfl (And.intro rfl (And.intro rfl (And.intro rfl (And.intro rfl (And.intro rfl (And.intro rfl (And.intro rfl (And.intro rfl (And.intro rfl (And.intro rfl (And.intro rfl (And.intro rfl (And.intro rfl (And.intro rfl (And.intro rfl (And.intro rfl (And.intro rfl (trivial))))))))))))))))))))
        · repeat ((conv => whnf); first | with_reducible refine O_step ?_ | with_reducible refine S_step ?_ | with_reducible refine D_step ?_ | with_reducible refine RO.exit ?_ | with_reducible refine RO.ret ?_ | ((with_reducible refine And.intro ?sc ?_); case sc => exact side) | ((with_reducible refine br_f ?sc ?_); case sc => exact sideB) | ((with_reducible refine br_t ?sc ?_); case sc => exact sideB))
          refine RO.same (10 + 1) (by decide) (by decide) (And.intro rfl (And.intro rfl (trivial))) (And.intro rfl (And.intro rfl (And.intro rfl (And.intro rfl (And.intro rfl (And.intro rfl (And.intro rfl (And.intro rfl (And.intro rfl (And.intro rfl (And.intro rfl (And.intro rfl (And.intro rfl (And.intro rfl (And.intro rfl (And.intro rfl (And.intro rfl (And.intro rfl (trivial)))))))))))))))))))
      | 11, _ =>
        repeat ((conv => whnf); first | with_reducible refine O_step ?_ | with_reducible refine S_step ?_ | with_reducible refine D_step ?_ | with_reducible refine RO.exit ?_ | with_reducible refine RO.ret ?_ | ((with_reducible refine And.intro ?sc ?_); case sc => exact side) | ((with_reducible refine br_f ?sc ?_); case sc => exact sideB) | ((with_reducible refine br_t ?sc ?_); case sc => exact sideB))
        refine codes_is (i := 15) (ls := [3, 3, 3, 3, 3, 2, 4, 4]) kc11 rfl rfl (by decide) (by decide) fun g1 c1 hc1 => ?_
        repeat ((conv => whnf); first | with_reducible refine O_step ?_ | with_reducible refine S_step ?_ | with_reducible refine D_step ?_ | with_reducible refine RO.exit ?_ | with_reducible refine RO.ret ?_ | ((with_reducible refine And.intro ?sc ?_); case sc => exact side) | ((with_reducible refine br_f ?sc ?_); case sc => exact sideB) | ((with_reducible refine br_t ?sc ?_); case sc => exact sideB))
        refine WO.go (σ := Nat) (fun k => k ≤ 8) (fun k => 8 - k) (fun k => [(1, .sl 17 0 0 12 12), (2, .int .i64 ((11 : Nat) : Int)), (3, .sl 18 g1 0 8 c1), (5, .int .i64 (k : Int))])
          (fun _ => [.one true 0 (.ints .u8 [2, 1, 3, 3] 4), .one true 0 (.ints .u16 [1, 0, 3, 7] 4), .one true 0 (.ints .u8 [1, 1, 1] 3), .one true 0 (.ints .u8 [2] 1), .one true 0 (.ints .u8 [1] 1), .one true 0 (.ints .u16 [0] 1), .one true 0 (.ints .u8 [0, 0] 2), .one true 0 (.ints .u16 [0, 0] 2), .one true 0 (.ints .u8 [0, 1, 0] 3), .one true 0 (.ints .u16 [0, 0, 0] 3), .one true 0 (.ints .u8 [1, 2] 2), .one true 0 (.ints .u8 [16] 1), .one true 0 (.ints .u8 (List.replicate 321 0) 321), .one true 0 (.ints .u8 (List.replicate 320 0) 320), .one true 0 (.ints .u16 (List.replicate 320 0) 320), .one true 0 (.ints .u8 [3, 3, 3, 3, 3, 2, 4, 4] 8), .one true 0 (.ints .u16 [2, 6, 1, 5, 3, 0, 7, 15] 8), .one true 0 (.tab 3 12 (fun j => rowsK.getD j []) 12), .one true g1 (.ints .u16 [2, 6, 1, 5, 3, 0, 7, 15] c1)]) 0 tb_ok mixed (by kernel_rfl) (Nat.zero_le _) (And.intro rfl (And.intro rfl (And.intro rfl (And.intro rfl (trivial))))) (And.intro rfl (And.intro rfl (And.intro rfl (And.intro rfl (And.intro rfl (And.intro rfl (And.intro rfl (And.intro rfl (And.intro rfl (And.intro rfl (And.intro rfl (And.intro rfl (And.intro rfl (And.intro rfl (And.intro rfl (And.intro rfl (And.intro rfl (And.intro rfl (And.intro rfl (trivial)))))))))))))))))))) (fun _ => rfl) (fun _ => rfl) (fun _ => ⟨trivial, trivial, trivial, trivial, trivial, trivial, trivial, trivial, trivial, trivial, trivial, trivial, trivial, trivial, trivial, trivial, trivial, rowsK_nb19, trivial, trivial⟩) ?_
        intro k hk d2
        have hk : k ≤ 8 := hk
        repeat ((conv => whnf); first | with_reducible refine O_step ?_ | with_reducible refine S_step ?_ | with_reducible refine D_step ?_ | with_reducible refine RO.exit ?_ | with_reducible refine RO.ret ?_ | ((with_reducible refine And.intro ?sc ?_); case sc => exact side) | ((with_reducible refine br_f ?sc ?_); case sc => exact sideB) | ((with_reducible refine br_t ?sc ?_); case sc => exact sideB))
        refine And.intro (fun hq => ?_) (fun hq => ?_)
        · have hkl : k < 8 := by simp only [decide_eq_true_eq] at hq; omega
          repeat ((conv => whnf); first | with_reducible refine O_step ?_ | with_reducible refine S_step ?_ | with_reducible refine D_step ?_ | with_reducible refine RO.exit ?_ | with_reducible refine RO.ret ?_ | ((with_reducible refine And.intro ?sc ?_); case sc => exact side) | ((with_reducible refine br_f ?sc ?_); case sc => exact sideB) | ((with_reducible refine br_t ?sc ?_); case sc => exact sideB))
          refine RO.same (k + 1) (by show k + 1 ≤ _; omega) (show 8 - (k + 1) < 8 - k by omega) (And.intro rfl (And.intro rfl (And.intro rfl (And.intro rfl (trivial))))) (And.intro rfl (And.intro rfl (And.intro rfl (And.intro rfl (And.intro rfl (And.intro rfl (And.intro rfl (And.intro rfl (And.intro rfl (And.intro rfl (And.intro rfl (And.intro rfl (And.intro rfl (And.intro rfl (And.intro rfl (And.intro rfl (And.intro rfl (And.intro rfl (And.intro rfl (trivial))))))))))))))))))))
        · repeat ((conv => whnf); first | with_reducible refine O_step ?_ | with_reducible refine S_step ?_ | with_reducible refine D_step ?_ | with_reducible refine RO.exit ?_ | with_reducible refine RO.ret ?_ | ((with_reducible refine And.intro ?sc ?_); case sc => exact side) | ((with_reducible refine br_f ?sc ?_); case sc => exact sideB) | ((with_reducible refine br_t ?sc ?_); case sc => exact sideB))
          refine RO.same (11 + 1) (by decide) (by decide) (And.intro rfl (And.intro rfl (trivial))) (And.intro rfl (And.intro rfl (And.intro rfl (And.intro rfl (And.intro rfl (And.intro rfl (And.intro rfl (And.intro rfl (And.intro rfl (And.intro rfl (And.intro rfl (And.intro rfl (And.intro rfl (And.intro rfl (And.intro rfl (And.intro rfl (And.intro rfl (And.intro rfl (trivial)))))))))))))))))))
      | i + 12, hl => exact absurd hl (Nat.not_lt.2 (Nat.le_add_left 12 i))
    · have hie : i = 12 := by omega
      subst hie
      repeat ((conv => whnf); first | with_reducible refine O_step ?_ | with_reducible refine S_step ?_ | with_reducible refine D_step ?_ | with_reducible refine RO.exit ?_ | with_reducible refine RO.ret ?_ | ((with_reducible refine And.intro ?sc ?_); case sc => exact side) | ((with_reducible refine br_f ?sc ?_); case sc => exact sideB) | ((with_reducible refine br_t ?sc ?_); case sc => exact sideB))
      exact cutP.mk () trivial trivial
set_option maxHeartbeats 4000000 in
theorem known2 (d0 : Nat → Value) : preK ckn (cutP (fun _ : Unit => []) (fun _ => [])) Q Kp 10 (tailC 3 body9) (ofL [] d0) [] := by
  repeat ((conv => whnf); first | with_reducible refine O_step ?_ | with_reducible refine S_step ?_ | with_reducible refine D_step ?_ | with_reducible refine RO.exit ?_ | with_reducible refine RO.ret ?_ | ((with_reducible refine And.intro ?sc ?_); case sc => exact side) | ((with_reducible refine br_f ?sc ?_); case sc => exact sideB) | ((with_reducible refine br_t ?sc ?_); case sc => exact sideB))
  refine lengths_is (i := 0) (fr := [1, 1, 2, 4]) lx0 rfl rfl (by decide) fun q1 r1 hr1 => ?_
  repeat ((conv => whnf); first | with_reducible refine O_step ?_ | with_reducible refine S_step ?_ | with_reducible refine D_step ?_ | with_reducible refine RO.exit ?_ | with_reducible refine RO.ret ?_ | ((with_reducible refine And.intro ?sc ?_); case sc => exact side) | ((with_reducible refine br_f ?sc ?_); case sc => exact sideB) | ((with_reducible refine br_t ?sc ?_); case sc => exact sideB))
  refine lengths_is (i := 2) (fr := [0, 5]) lx1 rfl rfl (by decide) fun q3 r3 hr3 => ?_
  repeat ((conv => whnf); first | with_reducible refine O_step ?_ | with_reducible refine S_step ?_ | with_reducible refine D_step ?_ | with_reducible refine RO.exit ?_ | with_reducible refine RO.ret ?_ | ((with_reducible refine And.intro ?sc ?_); case sc => exact side) | ((with_reducible refine br_f ?sc ?_); case sc => exact sideB) | ((with_reducible refine br_t ?sc ?_); case sc => exact sideB))
  refine lengths_is (i := 4) (fr := [1, 1, 1]) lx2 rfl rfl (by decide) fun q5 r5 hr5 => ?_
  repeat ((conv => whnf); first | with_reducible refine O_step ?_ | with_reducible refine S_step ?_ | with_reducible refine D_step ?_ | with_reducible refine RO.exit ?_ | with_reducible refine RO.ret ?_ | ((with_reducible refine And.intro ?sc ?_); case sc => exact side) | ((with_reducible refine br_f ?sc ?_); case sc => exact sideB) | ((with_reducible refine br_t ?sc ?_); case sc => exact sideB))
  refine lengths_is (i := 6) (fr := [1]) lx3 rfl rfl (by decide) fun q7 r7 hr7 => ?_
  repeat ((conv => whnf); first | with_reducible refine O_step ?_ | with_reducible refine S_step ?_ | with_reducible refine D_step ?_ | with_reducible refine RO.exit ?_ | with_reducible refine RO.ret ?_ | ((with_reducible refine And.intro ?sc ?_); case sc => exact side) | ((with_reducible refine br_f ?sc ?_); case sc => exact sideB) | ((with_reducible refine br_t ?sc ?_); case sc => exact sideB))
  refine lengths_is (i := 8) (fr := [1]) lx4 rfl rfl (by decide) fun q9 r9 hr9 => ?_
  repeat ((conv => whnf); first | with_reducible refine O_step ?_ | with_reducible refine S_step ?_ | with_reducible refine D_step ?_ | with_reducible refine RO.exit ?_ | with_reducible refine RO.ret ?_ | ((with_reducible refine And.intro ?sc ?_); case sc => exact side) | ((with_reducible refine br_f ?sc ?_); case sc => exact sideB) | ((with_reducible refine br_t ?sc ?_); case sc => exact sideB))
  refine lengths_is (i := 10) (fr := [-1]) lx5 rfl rfl (by decide) fun q11 r11 hr11 => ?_
  repeat ((conv => whnf); first | with_reducible refine O_step ?_ | with_reducible refine S_step ?_ | with_reducible refine D_step ?_ | with_reducible refine RO.exit ?_ | with_reducible refine RO.ret ?_ | ((with_reducible refine And.intro ?sc ?_); case sc => exact side) | ((with_reducible refine br_f ?sc ?_); case sc => exact sideB) | ((with_reducible refine br_t ?sc ?_); case sc => exact sideB))
  refine lengths_is (i := 12) (fr := [1099511627777]) lx6 rfl rfl (by decide) fun q13 r13 hr13 => ?_
  repeat ((conv => whnf); first | with_reducible refine O_step ?_ | with_reducible refine S_step ?_ | with_reducible refine D_step ?_ | with_reducible refine RO.exit ?_ | with_reducible refine RO.ret ?_ | ((with_reducible refine And.intro ?sc ?_); case sc => exact side) | ((with_reducible refine br_f ?sc ?_); case sc => exact sideB) | ((with_reducible refine br_t ?sc ?_); case sc => exact sideB))
  refine lengths_is (i := 14) (fr := (List.replicate 321 0)) lx7 rfl rfl (by decide) fun q15 r15 hr15 => ?_
  repeat ((conv => whnf); first | with_reducible refine O_step ?_ | with_reducible refine S_step ?_ | with_reducible refine D_step ?_ | with_reducible refine RO.exit ?_ | with_reducible refine RO.ret ?_ | ((with_reducible refine And.intro ?sc ?_); case sc => exact side) | ((with_reducible refine br_f ?sc ?_); case sc => exact sideB) | ((with_reducible refine br_t ?sc ?_); case sc => exact sideB))
  refine lengths_is (i := 16) (fr := [1099511627776, 1099511627776]) lx8 rfl rfl (by decide) fun q17 r17 hr17 => ?_
  repeat ((conv => whnf); first | with_reducible refine O_step ?_ | with_reducible refine S_step ?_ | with_reducible refine D_step ?_ | with_reducible refine RO.exit ?_ | with_reducible refine RO.ret ?_ | ((with_reducible refine And.intro ?sc ?_); case sc => exact side) | ((with_reducible refine br_f ?sc ?_); case sc => exact sideB) | ((with_reducible refine br_t ?sc ?_); case sc => exact sideB))
  exact cutP.mk () trivial trivial
set_option maxHeartbeats 4000000 in
theorem known3 (d0 : Nat → Value) : preK ckn (cutP l3 H3) Q Kp 6 (tailC 13 body9) (ofL [] d0) [] := by
  repeat ((conv => whnf); first | with_reducible refine O_step ?_ | with_reducible refine S_step ?_ | with_reducible refine D_step ?_ | with_reducible refine RO.exit ?_ | with_reducible refine RO.ret ?_ | ((with_reducible refine And.intro ?sc ?_); case sc => exact side) | ((with_reducible refine br_f ?sc ?_); case sc => exact sideB) | ((with_reducible refine br_t ?sc ?_); case sc => exact sideB))
  refine hnew_at (i := 0) (ls := [2, 1, 3, 3]) rfl rfl (by decide) (by decide) (fun h => absurd (show eachE [2, 1, 3, 3] = 0 by decide) h) fun _ => ?_
  repeat ((conv => whnf); first | with_reducible refine O_step ?_ | with_reducible refine S_step ?_ | with_reducible refine D_step ?_ | with_reducible refine RO.exit ?_ | with_reducible refine RO.ret ?_ | ((with_reducible refine And.intro ?sc ?_); case sc => exact side) | ((with_reducible refine br_f ?sc ?_); case sc => exact sideB) | ((with_reducible refine br_t ?sc ?_); case sc => exact sideB))
  refine new_at (i := 3) (xs := [58]) rfl rfl (by decide) fun n1 m1 hm1 => ?_
  repeat ((conv => whnf); first | with_reducible refine O_step ?_ | with_reducible refine S_step ?_ | with_reducible refine D_step ?_ | with_reducible refine RO.exit ?_ | with_reducible refine RO.ret ?_ | ((with_reducible refine And.intro ?sc ?_); case sc => exact side) | ((with_reducible refine br_f ?sc ?_); case sc => exact sideB) | ((with_reducible refine br_t ?sc ?_); case sc => exact sideB))
  refine tread_at (ir := 5) (ib := 4) (im := 1) (it := 2) (g := n1) (c := m1) (xs := [58]) (a := 0) (es := layM (tellS [2, 1, 3, 3] 15).2 []) rfl rfl rfl rfl rfl (by decide) (by decide) (by decide) (keyOk_tell (by decide)) ?_
  rw [kr0]
  repeat ((conv => whnf); first | with_reducible refine O_step ?_ | with_reducible refine S_step ?_ | with_reducible refine D_step ?_ | with_reducible refine RO.exit ?_ | with_reducible refine RO.ret ?_ | ((with_reducible refine And.intro ?sc ?_); case sc => exact side) | ((with_reducible refine br_f ?sc ?_); case sc => exact sideB) | ((with_reducible refine br_t ?sc ?_); case sc => exact sideB))
  refine tread_at (ir := 5) (ib := 4) (im := 1) (it := 2) (g := n1) (c := m1) (xs := [58]) (a := 1) (es := layM (tellS [2, 1, 3, 3] 15).2 []) rfl rfl rfl rfl rfl (by decide) (by decide) (by decide) (keyOk_tell (by decide)) ?_
  rw [kr1]
  repeat ((conv => whnf); first | with_reducible refine O_step ?_ | with_reducible refine S_step ?_ | with_reducible refine D_step ?_ | with_reducible refine RO.exit ?_ | with_reducible refine RO.ret ?_ | ((with_reducible refine And.intro ?sc ?_); case sc => exact side) | ((with_reducible refine br_f ?sc ?_); case sc => exact sideB) | ((with_reducible refine br_t ?sc ?_); case sc => exact sideB))
  refine tread_at (ir := 5) (ib := 4) (im := 1) (it := 2) (g := n1) (c := m1) (xs := [58]) (a := 3) (es := layM (tellS [2, 1, 3, 3] 15).2 []) rfl rfl rfl rfl rfl (by decide) (by decide) (by decide) (keyOk_tell (by decide)) ?_
  rw [kr2]
  repeat ((conv => whnf); first | with_reducible refine O_step ?_ | with_reducible refine S_step ?_ | with_reducible refine D_step ?_ | with_reducible refine RO.exit ?_ | with_reducible refine RO.ret ?_ | ((with_reducible refine And.intro ?sc ?_); case sc => exact side) | ((with_reducible refine br_f ?sc ?_); case sc => exact sideB) | ((with_reducible refine br_t ?sc ?_); case sc => exact sideB))
  exact cutP.mk (n1, m1) (And.intro rfl (And.intro rfl (And.intro rfl (And.intro rfl (And.intro rfl (And.intro rfl (And.intro rfl (trivial)))))))) (And.intro trivial (And.intro trivial (And.intro trivial (And.intro trivial (And.intro rfl (And.intro rfl (trivial)))))))
end

set_option maxHeartbeats 4000000 in
theorem known4 (s : Nat × Nat) (d0 : Nat → Value) : codeO ckn (tailC 19 body9) (postA tb Try.f9.results.toList (fun r _ => ∃ b, r.asB = some b ∧ AV.bo b = .bo true)) (fun _ _ => False) (ofL (l3 s) d0) (H3 s) := by
  repeat ((conv => whnf); first | with_reducible refine O_step ?_ | with_reducible refine S_step ?_ | with_reducible refine D_step ?_ | with_reducible refine RO.exit ?_ | with_reducible refine RO.ret ?_ | ((with_reducible refine And.intro ?sc ?_); case sc => exact side) | ((with_reducible refine br_f ?sc ?_); case sc => exact sideB) | ((with_reducible refine br_t ?sc ?_); case sc => exact sideB))
  refine hnew_at (i := 6) (ls := [1]) rfl rfl (by decide) (by decide) (fun h => absurd (show eachE [1] = 0 by decide) h) fun _ => ?_
  repeat ((conv => whnf); first | with_reducible refine O_step ?_ | with_reducible refine S_step ?_ | with_reducible refine D_step ?_ | with_reducible refine RO.exit ?_ | with_reducible refine RO.ret ?_ | ((with_reducible refine And.intro ?sc ?_); case sc => exact side) | ((with_reducible refine br_f ?sc ?_); case sc => exact sideB) | ((with_reducible refine br_t ?sc ?_); case sc => exact sideB))
  refine hnew_at (i := 9) (ls := [0]) rfl rfl (by decide) (by decide) (fun h => absurd (show eachE [0] = 0 by decide) h) fun _ => ?_
  repeat ((conv => whnf); first | with_reducible refine O_step ?_ | with_reducible refine S_step ?_ | with_reducible refine D_step ?_ | with_reducible refine RO.exit ?_ | with_reducible refine RO.ret ?_ | ((with_reducible refine And.intro ?sc ?_); case sc => exact side) | ((with_reducible refine br_f ?sc ?_); case sc => exact sideB) | ((with_reducible refine br_t ?sc ?_); case sc => exact sideB))
  refine new_at (i := 12) (xs := [1]) rfl rfl (by decide) fun n2 m2 hm2 => ?_
  repeat ((conv => whnf); first | with_reducible refine O_step ?_ | with_reducible refine S_step ?_ | with_reducible refine D_step ?_ | with_reducible refine RO.exit ?_ | with_reducible refine RO.ret ?_ | ((with_reducible refine And.intro ?sc ?_); case sc => exact side) | ((with_reducible refine br_f ?sc ?_); case sc => exact sideB) | ((with_reducible refine br_t ?sc ?_); case sc => exact sideB))
  refine tread_at (ir := 14) (ib := 13) (im := 7) (it := 8) (g := n2) (c := m2) (xs := [1]) (a := 0) (es := layM (tellS [1] 15).2 []) rfl rfl rfl rfl rfl (by decide) (by decide) (by decide) (keyOk_tell (by decide)) ?_
  rw [kr3]
  repeat ((conv => whnf); first | with_reducible refine O_step ?_ | with_reducible refine S_step ?_ | with_reducible refine D_step ?_ | with_reducible refine RO.exit ?_ | with_reducible refine RO.ret ?_ | ((with_reducible refine And.intro ?sc ?_); case sc => exact side) | ((with_reducible refine br_f ?sc ?_); case sc => exact sideB) | ((with_reducible refine br_t ?sc ?_); case sc => exact sideB))
  refine new_at (i := 15) (xs := [1]) rfl rfl (by decide) fun n3 m3 hm3 => ?_
  repeat ((conv => whnf); first | with_reducible refine O_step ?_ | with_reducible refine S_step ?_ | with_reducible refine D_step ?_ | with_reducible refine RO.exit ?_ | with_reducible refine RO.ret ?_ | ((with_reducible refine And.intro ?sc ?_); case sc => exact side) | ((with_reducible refine br_f ?sc ?_); case sc => exact sideB) | ((with_reducible refine br_t ?sc ?_); case sc => exact sideB))
  refine tread_at (ir := 17) (ib := 16) (im := 10) (it := 11) (g := n3) (c := m3) (xs := [1]) (a := 0) (es := layM (tellS [0] 15).2 []) rfl rfl rfl rfl rfl (by decide) (by decide) (by decide) (keyOk_tell (by decide)) ?_
  rw [kr4]
  repeat ((conv => whnf); first | with_reducible refine O_step ?_ | with_reducible refine S_step ?_ | with_reducible refine D_step ?_ | with_reducible refine RO.exit ?_ | with_reducible refine RO.ret ?_ | ((with_reducible refine And.intro ?sc ?_); case sc => exact side) | ((with_reducible refine br_f ?sc ?_); case sc => exact sideB) | ((with_reducible refine br_t ?sc ?_); case sc => exact sideB))
  refine at_at (i := 5) (j := 4) (g := s.1) (c := s.2) (xs := [58]) (a := 6) rfl rfl rfl ?_
  repeat ((conv => whnf); first | with_reducible refine O_step ?_ | with_reducible refine S_step ?_ | with_reducible refine D_step ?_ | with_reducible refine RO.exit ?_ | with_reducible refine RO.ret ?_ | ((with_reducible refine And.intro ?sc ?_); case sc => exact side) | ((with_reducible refine br_f ?sc ?_); case sc => exact sideB) | ((with_reducible refine br_t ?sc ?_); case sc => exact sideB))
  refine at_at (i := 14) (j := 13) (g := n2) (c := m2) (xs := [1]) (a := 1) rfl rfl rfl ?_
  repeat ((conv => whnf); first | with_reducible refine O_step ?_ | with_reducible refine S_step ?_ | with_reducible refine D_step ?_ | with_reducible refine RO.exit ?_ | with_reducible refine RO.ret ?_ | ((with_reducible refine And.intro ?sc ?_); case sc => exact side) | ((with_reducible refine br_f ?sc ?_); case sc => exact sideB) | ((with_reducible refine br_t ?sc ?_); case sc => exact sideB))
  refine at_at (i := 17) (j := 16) (g := n3) (c := m3) (xs := [1]) (a := 0) rfl rfl rfl ?_
  repeat ((conv => whnf); first | with_reducible refine O_step ?_ | with_reducible refine S_step ?_ | with_reducible refine D_step ?_ | with_reducible refine RO.exit ?_ | with_reducible refine RO.ret ?_ | ((with_reducible refine And.intro ?sc ?_); case sc => exact side) | ((with_reducible refine br_f ?sc ?_); case sc => exact sideB) | ((with_reducible refine br_t ?sc ?_); case sc => exact sideB))
  refine again_at ?_
  repeat ((conv => whnf); first | with_reducible refine O_step ?_ | with_reducible refine S_step ?_ | with_reducible refine D_step ?_ | with_reducible refine RO.exit ?_ | with_reducible refine RO.ret ?_ | ((with_reducible refine And.intro ?sc ?_); case sc => exact side) | ((with_reducible refine br_f ?sc ?_); case sc => exact sideB) | ((with_reducible refine br_t ?sc ?_); case sc => exact sideB))
  refine hcodes_at ?_
  repeat ((conv => whnf); first | with_reducible refine O_step ?_ | with_reducible refine S_step ?_ | with_reducible refine D_step ?_ | with_reducible refine RO.exit ?_ | with_reducible refine RO.ret ?_ | ((with_reducible refine And.intro ?sc ?_); case sc => exact side) | ((with_reducible refine br_f ?sc ?_); case sc => exact sideB) | ((with_reducible refine br_t ?sc ?_); case sc => exact sideB))
  exact ⟨true, rfl, rfl⟩
theorem huffKnown_law : CallA Try.prog 9 [] [] (fun r _ => r = .bo true) (fun _ _ => False) := by
  refine CallA.post_asB ?_
  refine CallA.introW (x := ckn) tb_ok mixed Try.func9 (rfl : Try.f9.body = some body9) (by kernel_rfl) plans9 rfl rfl rfl rfl ?_
  refine WA.cut (x := ckn) tb_ok mixed (fun _ : Unit => []) (fun _ => []) (fun _ => rfl) (fun _ => rfl) (fun _ => trivial) 3 _ _ plans9 known1 fun _ d0 => ?_
  refine WA.cut (x := ckn) tb_ok mixed (fun _ : Unit => []) (fun _ => []) (fun _ => rfl) (fun _ => rfl) (fun _ => trivial) 10 _ _ (by kernel_rfl) (known2 d0) fun _ d1 => ?_
  refine WA.cut (x := ckn) tb_ok mixed l3 H3 (fun _ => rfl) (fun _ => rfl) (fun _ => ⟨trivial, trivial, trivial, trivial, trivial, rfl, trivial⟩) 6 _ _ (by kernel_rfl) (known3 d1) fun s d2 => ?_
  exact WA.last (x := ckn) tb_ok mixed (by kernel_rfl) (known4 s d2)
end Go.Proofs.Ytdnmbmnfglbfoaa
