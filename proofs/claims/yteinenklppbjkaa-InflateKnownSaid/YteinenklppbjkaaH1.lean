/- Layer 6: container/heap over the queue of items: down, Init. -/
import Derived.Test.YteinenklppbjkaaH0

set_option linter.unusedVariables false

set_option linter.unusedSimpArgs false

open Go.RowKit

namespace Go.Proofs.Yteinenklppbjkaa

set_option maxRecDepth 10000

/-- Which of the two behind i is the lighter one. -/
def kidF (n : Nat) (L : List It) (i : Nat) : Nat := if 2 * i + 2 < n ∧ lessI (L.getD (2 * i + 2) default) (L.getD (2 * i + 1) default) = true then 2 * i + 2 else 2 * i + 1
def downG : Nat → Nat → List It → Nat → List It
  | 0, _, L, _ => L
  | f + 1, n, L, i => if 2 * i + 1 < n then if lessI (L.getD (kidF n L i) default) (L.getD i default) = true then downG f n (swapL L i (kidF n L i)) (kidF n L i) else L else L
def downF (n : Nat) (L : List It) (i : Nat) : List It := downG (n - i) n L i
theorem kidF_lt {n i : Nat} {L : List It} (h : 2 * i + 1 < n) : i < kidF n L i ∧ kidF n L i < n := by unfold kidF; split <;> omega
theorem downG_same : ∀ (f f' n : Nat) (L : List It) (i : Nat), n - i ≤ f → n - i ≤ f' → downG f n L i = downG f' n L i
  | 0, 0, _, _, _, _, _ => rfl
  | 0, f' + 1, n, L, i, h, _ => by simp only [downG]; rw [if_neg (by omega)]
  | f + 1, 0, n, L, i, _, h => by simp only [downG]; rw [if_neg (by omega)]
  | f + 1, f' + 1, n, L, i, h, h' => by
    simp only [downG]
    by_cases h1 : 2 * i + 1 < n
    · have hk := kidF_lt (L := L) h1
      rw [if_pos h1, if_pos h1, downG_same f f' n _ _ (by omega) (by omega)]
    · rw [if_neg h1, if_neg h1]
theorem downF_eq (n : Nat) (L : List It) (i : Nat) : downF n L i = if 2 * i + 1 < n then if lessI (L.getD (kidF n L i) default) (L.getD i default) = true then downF n (swapL L i (kidF n L i)) (kidF n L i) else L else L := by
  unfold downF
  by_cases h1 : 2 * i + 1 < n
  · have hk := kidF_lt (L := L) h1
    obtain ⟨f, hf⟩ : ∃ f, n - i = f + 1 := ⟨n - i - 1, by omega⟩
    rw [if_pos h1, hf, downG, if_pos h1, downG_same f (n - kidF n L i) n _ _ (by omega) (Nat.le_refl _)]
  · rw [if_neg h1]
    cases hf : n - i with
    | zero => rfl
    | succ f => simp only [downG]; rw [if_neg h1]
theorem downG_len : ∀ (f n : Nat) (L : List It) (i : Nat), (downG f n L i).length = L.length
  | 0, _, _, _ => rfl
  | f + 1, n, L, i => by
    simp only [downG]
    split
    · split
      · rw [downG_len f, swapL_len]
      · rfl
    · rfl
theorem downF_len (n : Nat) (L : List It) (i : Nat) : (downF n L i).length = L.length := downG_len _ _ _ _

section

variable {n m g h hcap c : Nat} {cu : Nat → Nat} {us : Nat → List Int} {K Kp : AV → AH → Prop}

theorem down_call {L : List It} {i0 N : Nat} {vi vN : Int} (hvi : vi = (i0 : Int)) (hvN : vN = (N : Int)) (hi : i0 ≤ N) (hN : N ≤ h) (hh : h ≤ L.length) (hlc : L.length ≤ c) (hb : L.length ≤ 1099511627776) (hK : ∀ b, K (.bo b) (qH n cu us m g h hcap c (downF N L i0))) :
    CallA Try.prog 69 [.ifc 114 (.ptr 0 0 0), .int .i64 vi, .int .i64 vN] (qH n cu us m g h hcap c L) K Kp := by
  subst hvi; subst hvN
  refine CallA.post_asB ?_
  refine step69 (fun _ => []) [] rfl ?_
  repeat ((conv => whnf); first | with_reducible refine O_step ?_ | with_reducible refine S_step ?_ | with_reducible refine D_step ?_ | with_reducible refine RO.exit ?_ | with_reducible refine RO.ret ?_ | ((with_reducible refine And.intro ?sc ?_); case sc => exact side))
  refine WO.go (σ := Nat × List It) (fun s => s.1 ≤ N ∧ s.2.length = L.length ∧ downF N s.2 s.1 = downF N L i0) (fun s => N - s.1)
    (fun s => [(0, .ifc 114 (.ptr 0 0 0)), (1, .int .i64 i0), (2, .int .i64 N), (6, .ff), (7, .int .i64 (s.1 : Int))])
    (fun s => qH n cu us m g h hcap c s.2) (i0, L) tb_ok mixed (by kernel_rfl) ⟨hi, rfl, rfl⟩ (And.intro rfl (And.intro rfl (And.intro rfl (And.intro rfl (And.intro rfl (trivial)))))) (And.intro rfl (And.intro rfl (And.intro rfl (trivial)))) (fun _ => rfl) (fun _ => rfl) (fun _ => qH_nb) ?_
  rintro ⟨i, L'⟩ ⟨h1, h2, h3⟩ d
  simp only at h1 h2 h3
  have hd := downF_eq N L' i
  repeat ((conv => whnf); first | with_reducible refine O_step ?_ | with_reducible refine S_step ?_ | with_reducible refine D_step ?_ | with_reducible refine RO.exit ?_ | with_reducible refine RO.ret ?_ | ((with_reducible refine And.intro ?sc ?_); case sc => exact side))
  refine And.intro (fun hc => ?_) (fun hc => ?_)
  · simp only [decide_eq_true_eq] at hc
    rw [if_neg (by omega), h3] at hd
    repeat ((conv => whnf); first | with_reducible refine O_step ?_ | with_reducible refine S_step ?_ | with_reducible refine D_step ?_ | with_reducible refine RO.exit ?_ | with_reducible refine RO.ret ?_ | ((with_reducible refine And.intro ?sc ?_); case sc => exact side) | ((with_reducible refine br_f ?sc ?_); case sc => exact sideB) | ((with_reducible refine br_t ?sc ?_); case sc => exact sideB))
    refine ⟨_, rfl, ?_⟩
    have := hK (decide ((i0 : Int) < i))
    rw [hd] at this
    exact this
  · simp only [decide_eq_false_iff_not] at hc
    rw [if_pos (by omega)] at hd
    repeat ((conv => whnf); first | with_reducible refine O_step ?_ | with_reducible refine S_step ?_ | with_reducible refine D_step ?_ | with_reducible refine RO.exit ?_ | with_reducible refine RO.ret ?_ | ((with_reducible refine And.intro ?sc ?_); case sc => exact side) | ((with_reducible refine br_f ?sc ?_); case sc => exact sideB) | ((with_reducible refine br_t ?sc ?_); case sc => exact sideB))
    refine And.intro (fun hc2 => ?_) (fun hc2 => ?_)
    · simp only [decide_eq_true_eq] at hc2
      repeat ((conv => whnf); first | with_reducible refine O_step ?_ | with_reducible refine S_step ?_ | with_reducible refine D_step ?_ | with_reducible refine RO.exit ?_ | with_reducible refine RO.ret ?_ | ((with_reducible refine And.intro ?sc ?_); case sc => exact side) | ((with_reducible refine br_f ?sc ?_); case sc => exact sideB) | ((with_reducible refine br_t ?sc ?_); case sc => exact sideB))
      conv => whnf
      refine Exists.intro 89 (Exists.intro (some 112) (And.intro (by kernel_rfl) ?_))
      repeat ((conv => whnf); first | with_reducible refine O_step ?_ | with_reducible refine S_step ?_ | with_reducible refine D_step ?_ | with_reducible refine RO.exit ?_ | with_reducible refine RO.ret ?_ | ((with_reducible refine And.intro ?sc ?_); case sc => exact side) | ((with_reducible refine br_f ?sc ?_); case sc => exact sideB) | ((with_reducible refine br_t ?sc ?_); case sc => exact sideB))
      refine qless_call (i := 2 * i + 2) (j := 2 * i + 1) (L := L') (by show 2 * (i : Int) + 1 + 1 = _; omega) (by show 2 * (i : Int) + 1 = _; omega) (show 2 * i + 2 < h by omega) (by omega) (by omega) ?_
      repeat ((conv => whnf); first | with_reducible refine O_step ?_ | with_reducible refine S_step ?_ | with_reducible refine D_step ?_ | with_reducible refine RO.exit ?_ | with_reducible refine RO.ret ?_ | ((with_reducible refine And.intro ?sc ?_); case sc => exact side) | ((with_reducible refine br_f ?sc ?_); case sc => exact sideB) | ((with_reducible refine br_t ?sc ?_); case sc => exact sideB))
      refine And.intro (fun hc3 => ?_) (fun hc3 => ?_)
      · have hk : kidF N L' i = 2 * i + 2 := by unfold kidF; rw [if_pos ⟨by omega, hc3⟩]
        repeat ((conv => whnf); first | with_reducible refine O_step ?_ | with_reducible refine S_step ?_ | with_reducible refine D_step ?_ | with_reducible refine RO.exit ?_ | with_reducible refine RO.ret ?_ | ((with_reducible refine And.intro ?sc ?_); case sc => exact side) | ((with_reducible refine br_f ?sc ?_); case sc => exact sideB) | ((with_reducible refine br_t ?sc ?_); case sc => exact sideB))
        conv => whnf
        refine Exists.intro 89 (Exists.intro (some 112) (And.intro (by kernel_rfl) ?_))
        repeat ((conv => whnf); first | with_reducible refine O_step ?_ | with_reducible refine S_step ?_ | with_reducible refine D_step ?_ | with_reducible refine RO.exit ?_ | with_reducible refine RO.ret ?_ | ((with_reducible refine And.intro ?sc ?_); case sc => exact side) | ((with_reducible refine br_f ?sc ?_); case sc => exact sideB) | ((with_reducible refine br_t ?sc ?_); case sc => exact sideB))
        refine qless_call (i := 2 * i + 2) (j := i) (L := L') (by show 2 * (i : Int) + 1 + 1 = _; omega) rfl (by omega) (by omega) (by omega) ?_
        rw [hk] at hd
        repeat ((conv => whnf); first | with_reducible refine O_step ?_ | with_reducible refine S_step ?_ | with_reducible refine D_step ?_ | with_reducible refine RO.exit ?_ | with_reducible refine RO.ret ?_ | ((with_reducible refine And.intro ?sc ?_); case sc => exact side) | ((with_reducible refine br_f ?sc ?_); case sc => exact sideB) | ((with_reducible refine br_t ?sc ?_); case sc => exact sideB))
        refine And.intro (fun hx => ?_) (fun hx => ?_)
        · rw [if_neg (by simpa using hx), h3] at hd
          repeat ((conv => whnf); first | with_reducible refine O_step ?_ | with_reducible refine S_step ?_ | with_reducible refine D_step ?_ | with_reducible refine RO.exit ?_ | with_reducible refine RO.ret ?_ | ((with_reducible refine And.intro ?sc ?_); case sc => exact side) | ((with_reducible refine br_f ?sc ?_); case sc => exact sideB) | ((with_reducible refine br_t ?sc ?_); case sc => exact sideB))
          refine ⟨_, rfl, ?_⟩
          have := hK (decide ((i0 : Int) < i))
          rw [hd] at this
          exact this
        · rw [if_pos (by simpa using hx), h3] at hd
          repeat ((conv => whnf); first | with_reducible refine O_step ?_ | with_reducible refine S_step ?_ | with_reducible refine D_step ?_ | with_reducible refine RO.exit ?_ | with_reducible refine RO.ret ?_ | ((with_reducible refine And.intro ?sc ?_); case sc => exact side) | ((with_reducible refine br_f ?sc ?_); case sc => exact sideB) | ((with_reducible refine br_t ?sc ?_); case sc => exact sideB))
          conv => whnf
          refine Exists.intro 90 (Exists.intro (some 112) (And.intro (by kernel_rfl) ?_))
          repeat ((conv => whnf); first | with_reducible refine O_step ?_ | with_reducible refine S_step ?_ | with_reducible refine D_step ?_ | with_reducible refine RO.exit ?_ | with_reducible refine RO.ret ?_ | ((with_reducible refine And.intro ?sc ?_); case sc => exact side) | ((with_reducible refine br_f ?sc ?_); case sc => exact sideB) | ((with_reducible refine br_t ?sc ?_); case sc => exact sideB))
          refine qswap_call (i := i) (j := 2 * i + 2) (L := L') rfl (by show 2 * (i : Int) + 1 + 1 = _; omega) (by omega) (by omega) (by omega) (by omega) ?_
          repeat ((conv => whnf); first | with_reducible refine O_step ?_ | with_reducible refine S_step ?_ | with_reducible refine D_step ?_ | with_reducible refine RO.exit ?_ | with_reducible refine RO.ret ?_ | ((with_reducible refine And.intro ?sc ?_); case sc => exact side) | ((with_reducible refine br_f ?sc ?_); case sc => exact sideB) | ((with_reducible refine br_t ?sc ?_); case sc => exact sideB))
          refine RO.same (2 * i + 2, swapL L' i (2 * i + 2)) ⟨by show _ ≤ N; omega, by rw [swapL_len]; exact h2, hd.symm⟩ (show N - (2 * i + 2) < N - i by omega) (And.intro rfl (And.intro rfl (And.intro rfl (And.intro rfl (And.intro ?_ trivial))))) (And.intro rfl (And.intro rfl (And.intro rfl (trivial))))
          show AV.int .i64 (2 * (i : Int) + 1 + 1) = AV.int .i64 ((2 * i + 2 : Nat) : Int)
          congr 1
      · have hk : kidF N L' i = 2 * i + 1 := by unfold kidF; rw [if_neg (by rintro ⟨_, h⟩; rw [h] at hc3; cases hc3)]
        repeat ((conv => whnf); first | with_reducible refine O_step ?_ | with_reducible refine S_step ?_ | with_reducible refine D_step ?_ | with_reducible refine RO.exit ?_ | with_reducible refine RO.ret ?_ | ((with_reducible refine And.intro ?sc ?_); case sc => exact side) | ((with_reducible refine br_f ?sc ?_); case sc => exact sideB) | ((with_reducible refine br_t ?sc ?_); case sc => exact sideB))
        conv => whnf
        refine Exists.intro 89 (Exists.intro (some 112) (And.intro (by kernel_rfl) ?_))
        repeat ((conv => whnf); first | with_reducible refine O_step ?_ | with_reducible refine S_step ?_ | with_reducible refine D_step ?_ | with_reducible refine RO.exit ?_ | with_reducible refine RO.ret ?_ | ((with_reducible refine And.intro ?sc ?_); case sc => exact side) | ((with_reducible refine br_f ?sc ?_); case sc => exact sideB) | ((with_reducible refine br_t ?sc ?_); case sc => exact sideB))
        refine qless_call (i := 2 * i + 1) (j := i) (L := L') (by show 2 * (i : Int) + 1 = _; omega) rfl (by omega) (by omega) (by omega) ?_
        rw [hk] at hd
        repeat ((conv => whnf); first | with_reducible refine O_step ?_ | with_reducible refine S_step ?_ | with_reducible refine D_step ?_ | with_reducible refine RO.exit ?_ | with_reducible refine RO.ret ?_ | ((with_reducible refine And.intro ?sc ?_); case sc => exact side) | ((with_reducible refine br_f ?sc ?_); case sc => exact sideB) | ((with_reducible refine br_t ?sc ?_); case sc => exact sideB))
        refine And.intro (fun hx => ?_) (fun hx => ?_)
        · rw [if_neg (by simpa using hx), h3] at hd
          repeat ((conv => whnf); first | with_reducible refine O_step ?_ | with_reducible refine S_step ?_ | with_reducible refine D_step ?_ | with_reducible refine RO.exit ?_ | with_reducible refine RO.ret ?_ | ((with_reducible refine And.intro ?sc ?_); case sc => exact side) | ((with_reducible refine br_f ?sc ?_); case sc => exact sideB) | ((with_reducible refine br_t ?sc ?_); case sc => exact sideB))
          refine ⟨_, rfl, ?_⟩
          have := hK (decide ((i0 : Int) < i))
          rw [hd] at this
          exact this
        · rw [if_pos (by simpa using hx), h3] at hd
          repeat ((conv => whnf); first | with_reducible refine O_step ?_ | with_reducible refine S_step ?_ | with_reducible refine D_step ?_ | with_reducible refine RO.exit ?_ | with_reducible refine RO.ret ?_ | ((with_reducible refine And.intro ?sc ?_); case sc => exact side) | ((with_reducible refine br_f ?sc ?_); case sc => exact sideB) | ((with_reducible refine br_t ?sc ?_); case sc => exact sideB))
          conv => whnf
          refine Exists.intro 90 (Exists.intro (some 112) (And.intro (by kernel_rfl) ?_))
          repeat ((conv => whnf); first | with_reducible refine O_step ?_ | with_reducible refine S_step ?_ | with_reducible refine D_step ?_ | with_reducible refine RO.exit ?_ | with_reducible refine RO.ret ?_ | ((with_reducible refine And.intro ?sc ?_); case sc => exact side) | ((with_reducible refine br_f ?sc ?_); case sc => exact sideB) | ((with_reducible refine br_t ?sc ?_); case sc => exact sideB))
          refine qswap_call (i := i) (j := 2 * i + 1) (L := L') rfl (by show 2 * (i : Int) + 1 = _; omega) (by omega) (by omega) (by omega) (by omega) ?_
          repeat ((conv => whnf); first | with_reducible refine O_step ?_ | with_reducible refine S_step ?_ | with_reducible refine D_step ?_ | with_reducible refine RO.exit ?_ | with_reducible refine RO.ret ?_ | ((with_reducible refine And.intro ?sc ?_); case sc => exact side) | ((with_reducible refine br_f ?sc ?_); case sc => exact sideB) | ((with_reducible refine br_t ?sc ?_); case sc => exact sideB))
          refine RO.same (2 * i + 1, swapL L' i (2 * i + 1)) ⟨by show _ ≤ N; omega, by rw [swapL_len]; exact h2, hd.symm⟩ (show N - (2 * i + 1) < N - i by omega) (And.intro rfl (And.intro rfl (And.intro rfl (And.intro rfl (And.intro ?_ trivial))))) (And.intro rfl (And.intro rfl (And.intro rfl (trivial))))
          show AV.int .i64 (2 * (i : Int) + 1) = AV.int .i64 ((2 * i + 1 : Nat) : Int)
          congr 1
    · have hk : kidF N L' i = 2 * i + 1 := by unfold kidF; rw [if_neg (by rintro ⟨h, _⟩; simp at hc2; omega)]
      repeat ((conv => whnf); first | with_reducible refine O_step ?_ | with_reducible refine S_step ?_ | with_reducible refine D_step ?_ | with_reducible refine RO.exit ?_ | with_reducible refine RO.ret ?_ | ((with_reducible refine And.intro ?sc ?_); case sc => exact side) | ((with_reducible refine br_f ?sc ?_); case sc => exact sideB) | ((with_reducible refine br_t ?sc ?_); case sc => exact sideB))
      conv => whnf
      refine Exists.intro 89 (Exists.intro (some 112) (And.intro (by kernel_rfl) ?_))
      repeat ((conv => whnf); first | with_reducible refine O_step ?_ | with_reducible refine S_step ?_ | with_reducible refine D_step ?_ | with_reducible refine RO.exit ?_ | with_reducible refine RO.ret ?_ | ((with_reducible refine And.intro ?sc ?_); case sc => exact side) | ((with_reducible refine br_f ?sc ?_); case sc => exact sideB) | ((with_reducible refine br_t ?sc ?_); case sc => exact sideB))
      refine qless_call (i := 2 * i + 1) (j := i) (L := L') (by show 2 * (i : Int) + 1 = _; omega) rfl (by omega) (by omega) (by omega) ?_
      rw [hk] at hd
      repeat ((conv => whnf); first | with_reducible refine O_step ?_ | with_reducible refine S_step ?_ | with_reducible refine D_step ?_ | with_reducible refine RO.exit ?_ | with_reducible refine RO.ret ?_ | ((with_reducible refine And.intro ?sc ?_); case sc => exact side) | ((with_reducible refine br_f ?sc ?_); case sc => exact sideB) | ((with_reducible refine br_t ?sc ?_); case sc => exact sideB))
      refine And.intro (fun hx => ?_) (fun hx => ?_)
      · rw [if_neg (by simpa using hx), h3] at hd
        repeat ((conv => whnf); first | with_reducible refine O_step ?_ | with_reducible refine S_step ?_ | with_reducible refine D_step ?_ | with_reducible refine RO.exit ?_ | with_reducible refine RO.ret ?_ | ((with_reducible refine And.intro ?sc ?_); case sc => exact side) | ((with_reducible refine br_f ?sc ?_); case sc => exact sideB) | ((with_reducible refine br_t ?sc ?_); case sc => exact sideB))
        refine ⟨_, rfl, ?_⟩
        have := hK (decide ((i0 : Int) < i))
        rw [hd] at this
        exact this
      · rw [if_pos (by simpa using hx), h3] at hd
        repeat ((conv => whnf); first | with_reducible refine O_step ?_ | with_reducible refine S_step ?_ | with_reducible refine D_step ?_ | with_reducible refine RO.exit ?_ | with_reducible refine RO.ret ?_ | ((with_reducible refine And.intro ?sc ?_); case sc => exact side) | ((with_reducible refine br_f ?sc ?_); case sc => exact sideB) | ((with_reducible refine br_t ?sc ?_); case sc => exact sideB))
        conv => whnf
        refine Exists.intro 90 (Exists.intro (some 112) (And.intro (by kernel_rfl) ?_))
        repeat ((conv => whnf); first | with_reducible refine O_step ?_ | with_reducible refine S_step ?_ | with_reducible refine D_step ?_ | with_reducible refine RO.exit ?_ | with_reducible refine RO.ret ?_ | ((with_reducible refine And.intro ?sc ?_); case sc => exact side) | ((with_reducible refine br_f ?sc ?_); case sc => exact sideB) | ((with_reducible refine br_t ?sc ?_); case sc => exact sideB))
        refine qswap_call (i := i) (j := 2 * i + 1) (L := L') rfl (by show 2 * (i : Int) + 1 = _; omega) (by omega) (by omega) (by omega) (by omega) ?_
        repeat ((conv => whnf); first | with_reducible refine O_step ?_ | with_reducible refine S_step ?_ | with_reducible refine D_step ?_ | with_reducible refine RO.exit ?_ | with_reducible refine RO.ret ?_ | ((with_reducible refine And.intro ?sc ?_); case sc => exact side) | ((with_reducible refine br_f ?sc ?_); case sc => exact sideB) | ((with_reducible refine br_t ?sc ?_); case sc => exact sideB))
        refine RO.same (2 * i + 1, swapL L' i (2 * i + 1)) ⟨by show _ ≤ N; omega, by rw [swapL_len]; exact h2, hd.symm⟩ (show N - (2 * i + 1) < N - i by omega) (And.intro rfl (And.intro rfl (And.intro rfl (And.intro rfl (And.intro ?_ trivial))))) (And.intro rfl (And.intro rfl (And.intro rfl (trivial))))
        show AV.int .i64 (2 * (i : Int) + 1) = AV.int .i64 ((2 * i + 1 : Nat) : Int)
        congr 1

/-- The first i places, from behind. -/
def initF (n : Nat) : Nat → List It → List It
  | 0, L => L
  | i + 1, L => initF n i (downF n L i)
theorem initF_len (n : Nat) : ∀ (i : Nat) (L : List It), (initF n i L).length = L.length
  | 0, _ => rfl
  | i + 1, L => by rw [initF, initF_len n i, downF_len]

theorem init_call {L : List It} (hh : h ≤ L.length) (hlc : L.length ≤ c) (hb : L.length ≤ 1099511627776) (hK : K (.tup []) (qH n cu us m g h hcap c (initF h (h / 2) L))) :
    CallA Try.prog 57 [.ifc 114 (.ptr 0 0 0)] (qH n cu us m g h hcap c L) K Kp := by
  have hq : Int.tdiv (h : Int) 2 = ((h / 2 : Nat) : Int) := by rw [Int.tdiv_eq_ediv_of_nonneg (by omega)]; rfl
  refine step57 (fun _ => []) [] rfl ?_
  repeat ((conv => whnf); first | with_reducible refine O_step ?_ | with_reducible refine S_step ?_ | with_reducible refine D_step ?_ | with_reducible refine RO.exit ?_ | with_reducible refine RO.ret ?_ | ((with_reducible refine And.intro ?sc ?_); case sc => exact side) | ((with_reducible refine br_f ?sc ?_); case sc => exact sideB) | ((with_reducible refine br_t ?sc ?_); case sc => exact sideB))
  conv => whnf
  refine Exists.intro 67 (Exists.intro (some 112) (And.intro (by kernel_rfl) ?_))
  repeat ((conv => whnf); first | with_reducible refine O_step ?_ | with_reducible refine S_step ?_ | with_reducible refine D_step ?_ | with_reducible refine RO.exit ?_ | with_reducible refine RO.ret ?_ | ((with_reducible refine And.intro ?sc ?_); case sc => exact side) | ((with_reducible refine br_f ?sc ?_); case sc => exact sideB) | ((with_reducible refine br_t ?sc ?_); case sc => exact sideB))
  refine qlen_call ?_
  repeat ((conv => whnf); first | with_reducible refine O_step ?_ | with_reducible refine S_step ?_ | with_reducible refine D_step ?_ | with_reducible refine RO.exit ?_ | with_reducible refine RO.ret ?_ | ((with_reducible refine And.intro ?sc ?_); case sc => exact side))
  refine WO.go (σ := Nat × List It) (fun s => s.1 ≤ h / 2 ∧ s.2.length = L.length ∧ initF h s.1 s.2 = initF h (h / 2) L) (fun s => s.1)
    (fun s => [(0, .ifc 114 (.ptr 0 0 0)), (2, .int .i64 h), (3, .int .i64 ((s.1 : Int) - 1))])
    (fun s => qH n cu us m g h hcap c s.2) (h / 2, L) tb_ok mixed (by kernel_rfl) ⟨Nat.le_refl _, rfl, rfl⟩ (And.intro rfl (And.intro rfl (And.intro ?_ trivial))) (And.intro rfl (And.intro rfl (And.intro rfl (trivial)))) (fun _ => rfl) (fun _ => rfl) (fun _ => qH_nb) ?_
  · show AV.int .i64 (Int.tdiv (h : Int) 2 - 1) = AV.int .i64 (((h / 2 : Nat) : Int) - 1)
    rw [hq]
  rintro ⟨i, L'⟩ ⟨h1, h2, h3⟩ d
  simp only at h1 h2 h3
  repeat ((conv => whnf); first | with_reducible refine O_step ?_ | with_reducible refine S_step ?_ | with_reducible refine D_step ?_ | with_reducible refine RO.exit ?_ | with_reducible refine RO.ret ?_ | ((with_reducible refine And.intro ?sc ?_); case sc => exact side))
  refine And.intro (fun hc => ?_) (fun hc => ?_)
  · simp only [decide_eq_true_eq] at hc
    obtain ⟨j, rfl⟩ : ∃ j, i = j + 1 := ⟨i - 1, by omega⟩
    repeat ((conv => whnf); first | with_reducible refine O_step ?_ | with_reducible refine S_step ?_ | with_reducible refine D_step ?_ | with_reducible refine RO.exit ?_ | with_reducible refine RO.ret ?_ | ((with_reducible refine And.intro ?sc ?_); case sc => exact side))
    refine down_call (L := L') (h := h) (c := c) (i0 := j) (N := h) (by show ((j + 1 : Nat) : Int) - 1 = _; omega) rfl (by omega) (by omega) (by omega) (by omega) (by omega) fun b => ?_
    repeat ((conv => whnf); first | with_reducible refine O_step ?_ | with_reducible refine S_step ?_ | with_reducible refine D_step ?_ | with_reducible refine RO.exit ?_ | with_reducible refine RO.ret ?_ | ((with_reducible refine And.intro ?sc ?_); case sc => exact side))
    refine RO.same (j, downF h L' j) ⟨by show j ≤ _; omega, by rw [downF_len]; exact h2, h3⟩ (Nat.lt_succ_self j) (And.intro rfl (And.intro rfl (And.intro ?_ trivial))) (And.intro rfl (And.intro rfl (And.intro rfl (trivial))))
    show AV.int .i64 (((j + 1 : Nat) : Int) - 1 - 1) = AV.int .i64 ((j : Int) - 1)
    congr 1; omega
  · simp only [decide_eq_false_iff_not] at hc
    obtain rfl : i = 0 := by omega
    repeat ((conv => whnf); first | with_reducible refine O_step ?_ | with_reducible refine S_step ?_ | with_reducible refine D_step ?_ | with_reducible refine RO.exit ?_ | with_reducible refine RO.ret ?_ | ((with_reducible refine And.intro ?sc ?_); case sc => exact side))
    simp only [initF] at h3
    subst h3
    exact hK
end

end Go.Proofs.Yteinenklppbjkaa
