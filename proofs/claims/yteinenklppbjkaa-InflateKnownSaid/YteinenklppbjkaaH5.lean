/- Layer 6: slices.ContainsFunc of numbers. -/
import Derived.Test.YteinenklppbjkaaH4

set_option linter.unusedVariables false

set_option linter.unusedSimpArgs false

open Go.RowKit

namespace Go.Proofs.Yteinenklppbjkaa

set_option maxRecDepth 10000

def badI (x : Int) : Bool := decide (x < 0) || decide (1099511627776 < x)
def badU (x : Int) : Bool := decide (15 < x)
section

variable {xs : List Int} {c c0 : Nat} {K Kp : AV → AH → Prop}

theorem badI_call {x : Int} {M : AH} (hM : M = [.one false 0 (.ints .i64 xs c)]) (hK : K (.bo (badI x)) M) : CallA Try.prog 55 [.int .i64 x] M K Kp := by
  subst hM
  refine CallA.post_asB ?_
  refine step55 (fun _ => []) [] rfl ?_
  repeat ((conv => whnf); first | with_reducible refine O_step ?_ | with_reducible refine S_step ?_ | with_reducible refine D_step ?_ | with_reducible refine RO.exit ?_ | with_reducible refine RO.ret ?_ | ((with_reducible refine And.intro ?sc ?_); case sc => exact side) | ((with_reducible refine br_f ?sc ?_); case sc => exact sideB) | ((with_reducible refine br_t ?sc ?_); case sc => exact sideB))
  refine And.intro (fun h1 => ?_) (fun h1 => ?_)
  · repeat ((conv => whnf); first | with_reducible refine O_step ?_ | with_reducible refine S_step ?_ | with_reducible refine D_step ?_ | with_reducible refine RO.exit ?_ | with_reducible refine RO.ret ?_ | ((with_reducible refine And.intro ?sc ?_); case sc => exact side) | ((with_reducible refine br_f ?sc ?_); case sc => exact sideB) | ((with_reducible refine br_t ?sc ?_); case sc => exact sideB))
    refine ⟨_, rfl, ?_⟩
    have e : badI x = true := by unfold badI; rw [h1]; rfl
    rw [e] at hK; exact hK
  · repeat ((conv => whnf); first | with_reducible refine O_step ?_ | with_reducible refine S_step ?_ | with_reducible refine D_step ?_ | with_reducible refine RO.exit ?_ | with_reducible refine RO.ret ?_ | ((with_reducible refine And.intro ?sc ?_); case sc => exact side) | ((with_reducible refine br_f ?sc ?_); case sc => exact sideB) | ((with_reducible refine br_t ?sc ?_); case sc => exact sideB))
    refine ⟨_, rfl, ?_⟩
    have e : badI x = decide (1099511627776 < x) := by unfold badI; rw [h1]; rfl
    rw [e] at hK; exact hK
theorem badU_call {x : Int} {M : AH} (hM : M = [.one false 0 (.ints .u8 xs c)]) (hK : K (.bo (badU x)) M) : CallA Try.prog 60 [.int .u8 x] M K Kp := by
  subst hM
  refine step60 (fun _ => []) [] rfl ?_
  repeat ((conv => whnf); first | with_reducible refine O_step ?_ | with_reducible refine S_step ?_ | with_reducible refine D_step ?_ | with_reducible refine RO.exit ?_ | with_reducible refine RO.ret ?_ | ((with_reducible refine And.intro ?sc ?_); case sc => exact side) | ((with_reducible refine br_f ?sc ?_); case sc => exact sideB) | ((with_reducible refine br_t ?sc ?_); case sc => exact sideB))
  exact hK
theorem idxI_call (hl : xs.length ≤ 1000000000) (hK : ∀ r : Int, (0 ≤ r ↔ xs.any badI = true) → K (.int .i64 r) [.one false 0 (.ints .i64 xs c)]) :
    CallA Try.prog 65 [.sl 0 0 0 xs.length c0, .fn (.func 55) [] []] [.one false 0 (.ints .i64 xs c)] K Kp := by
  refine step65 (fun _ => [0]) [] rfl ?_
  repeat ((conv => whnf); first | with_reducible refine O_step ?_ | with_reducible refine S_step ?_ | with_reducible refine D_step ?_ | with_reducible refine RO.exit ?_ | with_reducible refine RO.ret ?_ | ((with_reducible refine And.intro ?sc ?_); case sc => exact side))
  refine WO.go (σ := Nat) (fun i => i ≤ xs.length ∧ ∀ j, j < i → badI (xs.getD j 0) = false) (fun i => xs.length - i)
    (fun i => [(0, .sl 0 0 0 xs.length c0), (1, .fn (.func 55) [] []), (7, .int .i64 xs.length), (8, .int .i64 (i : Int))]) (fun i => [.one false 0 (.ints .i64 xs c)]) 0 tb_ok mixed (by kernel_rfl) ⟨Nat.zero_le _, fun j hj => absurd hj (Nat.not_lt_zero j)⟩ (And.intro rfl (And.intro rfl (And.intro rfl (And.intro rfl (trivial))))) (And.intro rfl (trivial)) (fun _ => rfl) (fun _ => rfl) (fun _ => ⟨trivial, trivial⟩) ?_
  rintro i ⟨h1, h2⟩ d
  repeat ((conv => whnf); first | with_reducible refine O_step ?_ | with_reducible refine S_step ?_ | with_reducible refine D_step ?_ | with_reducible refine RO.exit ?_ | with_reducible refine RO.ret ?_ | ((with_reducible refine And.intro ?sc ?_); case sc => exact side))
  refine And.intro (fun hc => ?_) (fun hc => ?_)
  · simp only [decide_eq_true_eq] at hc
    repeat ((conv => whnf); first | with_reducible refine O_step ?_ | with_reducible refine S_step ?_ | with_reducible refine D_step ?_ | with_reducible refine RO.exit ?_ | with_reducible refine RO.ret ?_ | ((with_reducible refine And.intro ?sc ?_); case sc => exact side))
    refine badI_call (x := xs.getD ((i : Int).toNat + 0) 0) rfl ?_
    repeat ((conv => whnf); first | with_reducible refine O_step ?_ | with_reducible refine S_step ?_ | with_reducible refine D_step ?_ | with_reducible refine RO.exit ?_ | with_reducible refine RO.ret ?_ | ((with_reducible refine And.intro ?sc ?_); case sc => exact side))
    refine And.intro (fun hb => ?_) (fun hb => ?_)
    · repeat ((conv => whnf); first | with_reducible refine O_step ?_ | with_reducible refine S_step ?_ | with_reducible refine D_step ?_ | with_reducible refine RO.exit ?_ | with_reducible refine RO.ret ?_ | ((with_reducible refine And.intro ?sc ?_); case sc => exact side))
      refine hK _ ⟨fun _ => ?_, fun _ => by omega⟩
      rw [List.any_eq_true]
      refine ⟨xs.getD i 0, ?_, by simpa using hb⟩
      rw [List.getD_eq_getElem?_getD, List.getElem?_eq_getElem (show i < xs.length by omega)]; exact List.getElem_mem _
    · repeat ((conv => whnf); first | with_reducible refine O_step ?_ | with_reducible refine S_step ?_ | with_reducible refine D_step ?_ | with_reducible refine RO.exit ?_ | with_reducible refine RO.ret ?_ | ((with_reducible refine And.intro ?sc ?_); case sc => exact side))
      refine RO.same (i + 1) ⟨by omega, fun j hj => ?_⟩ (show xs.length - (i + 1) < xs.length - i by omega) (And.intro rfl (And.intro rfl (And.intro rfl (And.intro rfl (trivial))))) (And.intro rfl (trivial))
      by_cases e : j = i
      · subst e; simpa using hb
      · exact h2 j (by omega)
  · simp only [decide_eq_false_iff_not] at hc
    have : xs.any badI = false := by
      rw [List.any_eq_false]
      intro x hx
      obtain ⟨j, hj, rfl⟩ := List.getElem_of_mem hx
      have := h2 j (by omega)
      rw [List.getD_eq_getElem?_getD, List.getElem?_eq_getElem hj] at this
      simpa using this
    repeat ((conv => whnf); first | with_reducible refine O_step ?_ | with_reducible refine S_step ?_ | with_reducible refine D_step ?_ | with_reducible refine RO.exit ?_ | with_reducible refine RO.ret ?_ | ((with_reducible refine And.intro ?sc ?_); case sc => exact side))
    exact hK _ ⟨fun h => by omega, fun h => by rw [this] at h; cases h⟩
theorem idxU_call (hl : xs.length ≤ 1000000000) (hK : ∀ r : Int, (0 ≤ r ↔ xs.any badU = true) → K (.int .i64 r) [.one false 0 (.ints .u8 xs c)]) :
    CallA Try.prog 71 [.sl 0 0 0 xs.length c0, .fn (.func 60) [] []] [.one false 0 (.ints .u8 xs c)] K Kp := by
  refine step71 (fun _ => [0]) [] rfl ?_
  repeat ((conv => whnf); first | with_reducible refine O_step ?_ | with_reducible refine S_step ?_ | with_reducible refine D_step ?_ | with_reducible refine RO.exit ?_ | with_reducible refine RO.ret ?_ | ((with_reducible refine And.intro ?sc ?_); case sc => exact side))
  refine WO.go (σ := Nat) (fun i => i ≤ xs.length ∧ ∀ j, j < i → badU (xs.getD j 0) = false) (fun i => xs.length - i)
    (fun i => [(0, .sl 0 0 0 xs.length c0), (1, .fn (.func 60) [] []), (7, .int .i64 xs.length), (8, .int .i64 (i : Int))]) (fun i => [.one false 0 (.ints .u8 xs c)]) 0 tb_ok mixed (by kernel_rfl) ⟨Nat.zero_le _, fun j hj => absurd hj (Nat.not_lt_zero j)⟩ (And.intro rfl (And.intro rfl (And.intro rfl (And.intro rfl (trivial))))) (And.intro rfl (trivial)) (fun _ => rfl) (fun _ => rfl) (fun _ => ⟨trivial, trivial⟩) ?_
  rintro i ⟨h1, h2⟩ d
  repeat ((conv => whnf); first | with_reducible refine O_step ?_ | with_reducible refine S_step ?_ | with_reducible refine D_step ?_ | with_reducible refine RO.exit ?_ | with_reducible refine RO.ret ?_ | ((with_reducible refine And.intro ?sc ?_); case sc => exact side))
  refine And.intro (fun hc => ?_) (fun hc => ?_)
  · simp only [decide_eq_true_eq] at hc
    repeat ((conv => whnf); first | with_reducible refine O_step ?_ | with_reducible refine S_step ?_ | with_reducible refine D_step ?_ | with_reducible refine RO.exit ?_ | with_reducible refine RO.ret ?_ | ((with_reducible refine And.intro ?sc ?_); case sc => exact side))
    refine badU_call (x := xs.getD ((i : Int).toNat + 0) 0) rfl ?_
    repeat ((conv => whnf); first | with_reducible refine O_step ?_ | with_reducible refine S_step ?_ | with_reducible refine D_step ?_ | with_reducible refine RO.exit ?_ | with_reducible refine RO.ret ?_ | ((with_reducible refine And.intro ?sc ?_); case sc => exact side))
    refine And.intro (fun hb => ?_) (fun hb => ?_)
    · repeat ((conv => whnf); first | with_reducible refine O_step ?_ | with_reducible refine S_step ?_ | with_reducible refine D_step ?_ | with_reducible refine RO.exit ?_ | with_reducible refine RO.ret ?_ | ((with_reducible refine And.intro ?sc ?_); case sc => exact side))
      refine hK _ ⟨fun _ => ?_, fun _ => by omega⟩
      rw [List.any_eq_true]
      refine ⟨xs.getD i 0, ?_, by simpa using hb⟩
      rw [List.getD_eq_getElem?_getD, List.getElem?_eq_getElem (show i < xs.length by omega)]; exact List.getElem_mem _
    · repeat ((conv => whnf); first | with_reducible refine O_step ?_ | with_reducible refine S_step ?_ | with_reducible refine D_step ?_ | with_reducible refine RO.exit ?_ | with_reducible refine RO.ret ?_ | ((with_reducible refine And.intro ?sc ?_); case sc => exact side))
      refine RO.same (i + 1) ⟨by omega, fun j hj => ?_⟩ (show xs.length - (i + 1) < xs.length - i by omega) (And.intro rfl (And.intro rfl (And.intro rfl (And.intro rfl (trivial))))) (And.intro rfl (trivial))
      by_cases e : j = i
      · subst e; simpa using hb
      · exact h2 j (by omega)
  · simp only [decide_eq_false_iff_not] at hc
    have : xs.any badU = false := by
      rw [List.any_eq_false]
      intro x hx
      obtain ⟨j, hj, rfl⟩ := List.getElem_of_mem hx
      have := h2 j (by omega)
      rw [List.getD_eq_getElem?_getD, List.getElem?_eq_getElem hj] at this
      simpa using this
    repeat ((conv => whnf); first | with_reducible refine O_step ?_ | with_reducible refine S_step ?_ | with_reducible refine D_step ?_ | with_reducible refine RO.exit ?_ | with_reducible refine RO.ret ?_ | ((with_reducible refine And.intro ?sc ?_); case sc => exact side))
    exact hK _ ⟨fun h => by omega, fun h => by rw [this] at h; cases h⟩
theorem hasI_call (hl : xs.length ≤ 1000000000) (hK : K (.bo (xs.any badI)) [.one false 0 (.ints .i64 xs c)]) :
    CallA Try.prog 54 [.sl 0 0 0 xs.length c0, .fn (.func 55) [] []] [.one false 0 (.ints .i64 xs c)] K Kp := by
  refine step54 (fun _ => []) [] rfl ?_
  repeat ((conv => whnf); first | with_reducible refine O_step ?_ | with_reducible refine S_step ?_ | with_reducible refine D_step ?_ | with_reducible refine RO.exit ?_ | with_reducible refine RO.ret ?_ | ((with_reducible refine And.intro ?sc ?_); case sc => exact side))
  refine idxI_call hl fun r hr => ?_
  repeat ((conv => whnf); first | with_reducible refine O_step ?_ | with_reducible refine S_step ?_ | with_reducible refine D_step ?_ | with_reducible refine RO.exit ?_ | with_reducible refine RO.ret ?_ | ((with_reducible refine And.intro ?sc ?_); case sc => exact side))
  have : decide ((0 : Int) ≤ r) = xs.any badI := by rw [Bool.eq_iff_iff, decide_eq_true_eq]; exact hr
  rw [← this] at hK
  exact hK
theorem hasU_call (hl : xs.length ≤ 1000000000) (hK : K (.bo (xs.any badU)) [.one false 0 (.ints .u8 xs c)]) :
    CallA Try.prog 59 [.sl 0 0 0 xs.length c0, .fn (.func 60) [] []] [.one false 0 (.ints .u8 xs c)] K Kp := by
  refine step59 (fun _ => []) [] rfl ?_
  repeat ((conv => whnf); first | with_reducible refine O_step ?_ | with_reducible refine S_step ?_ | with_reducible refine D_step ?_ | with_reducible refine RO.exit ?_ | with_reducible refine RO.ret ?_ | ((with_reducible refine And.intro ?sc ?_); case sc => exact side))
  refine idxU_call hl fun r hr => ?_
  repeat ((conv => whnf); first | with_reducible refine O_step ?_ | with_reducible refine S_step ?_ | with_reducible refine D_step ?_ | with_reducible refine RO.exit ?_ | with_reducible refine RO.ret ?_ | ((with_reducible refine And.intro ?sc ?_); case sc => exact side))
  have : decide ((0 : Int) ≤ r) = xs.any badU := by rw [Bool.eq_iff_iff, decide_eq_true_eq]; exact hr
  rw [← this] at hK
  exact hK
theorem hasU_at {M : AH} {i g n co : Nat} {o : Bool} (hi : M[i]? = some (.one o g (.ints .u8 xs co))) (hn : n = xs.length) (hl : xs.length ≤ 1000000000) (hK : K (.bo (xs.any badU)) M) :
    CallA Try.prog 59 [.sl i g 0 n c, .fn (.func 60) [] []] M K Kp := by
  subst hn
  refine CallA.lift [.win i g 0] (hasU_call (xs := xs) (c0 := c) (c := co) (K := fun r M => r = .bo (xs.any badU) ∧ M = [.one false 0 (.ints .u8 xs co)]) (Kp := fun _ _ => False) hl ⟨rfl, rfl⟩) rfl rfl ⟨⟨_, _, _, rfl, slot_one hi, WinC.same rfl (fun h => h)⟩, trivial⟩ ⟨trivial, trivial⟩ ?_ (fun _ _ h => h.elim)
  rintro r M' ⟨rfl, rfl⟩
  refine ⟨⟨rfl, rfl⟩, ?_⟩
  rw [← List.append_nil M] at hK
  exact hK
/-- pairs, in whatever heap. -/
theorem pairs_at {M : AH} {a g u n m k : Nat} {o : Bool} {cu : Nat → Nat} {us : Nat → List Int} {L : List It} {B Bu : Int} (ok : PairsOk n m us B Bu L) (ha : M[a]? = some (.one o g (.tab 3 L.length (gU u n cu L) c))) (hu : M[u]? = some (.fam false m (uF us cu))) (hk : k = L.length)
    (hK : ∀ g' c' cv, (pairsF L).length ≤ c' → K (.sl (M.length + 1) g' 0 (pairsF L).length c') (M ++ [.fam true (pairsF L).length (uF (vsF us (pairsF L)) cv), aO M.length n cv g' c' (outI (pairsF L))])) :
    CallA Try.prog 56 [.sl a g 0 k c0] M K Kp := by
  subst hk
  refine CallA.lift [.win a g 0, .sha u] (pairs_call (c0 := c0) (c := c) (cu := cu) (Kp := fun _ _ => False) ok) rfl rfl ⟨⟨_, _, _, rfl, slot_one ha, WinC.same rfl (fun h => h)⟩, ⟨rfl, _, hu, rfl⟩, trivial⟩ ⟨fun _ => rfl, fun _ => trivial, trivial⟩ ?_ (fun _ _ h => h.elim)
  rintro r M' ⟨g', c', cv, rfl, rfl, h⟩
  exact ⟨⟨rfl, rfl, rfl⟩, hK g' c' cv h⟩
end

end Go.Proofs.Yteinenklppbjkaa
