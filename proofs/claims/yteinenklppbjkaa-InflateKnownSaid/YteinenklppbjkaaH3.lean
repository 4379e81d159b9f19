/- Layer 6: slices.Clone of items and of uses; pairs. -/
import Derived.Test.YteinenklppbjkaaH2

set_option linter.unusedVariables false

set_option linter.unusedSimpArgs false

open Go.RowKit

namespace Go.Proofs.Yteinenklppbjkaa

set_option maxRecDepth 10000

/-- A table with the same rows. -/
theorem Vw.tab {M : AH} {i g sz n c : Nat} {get : Nat → List AV} {l : List AV} (get' : Nat → List AV) (hm : M[i]? = some (.one true g (.tab sz n get c))) (h : ∀ r, r < n → get' r = get r) : Vw M (M.set i (.one true g (.tab sz n get' c))) l l := by
  intro ρ w hs hok
  obtain ⟨h1, h2⟩ := sim_recast (x' := .tab sz n get' c) hs hm (Nat.le_refl _) (fun k v hv => by
    have hv0 : (Cont.tab sz n get c).at k = some v := by
      simp only [Cont.at] at hv ⊢
      split at hv
      · rename_i hlt
        rw [if_pos hlt, ← h _ (Nat.div_lt_of_lt_mul (by rw [Nat.mul_comm]; exact hlt))]; exact hv
      · cases hv
    refine ⟨v, hv0, rfl, ?_⟩
    rcases hs.holds i g true _ (slot_one hm) with ⟨q, e1, e2⟩ | ⟨_, e2⟩
    · obtain ⟨c, e, fr, k1, k2, k3, k4⟩ := e2.out rfl
      exact (k3 k v hv0).1
    · exfalso
      simp only [Cont.at] at hv0
      obtain ⟨rfl, _⟩ := e2
      simp at hv0) (fun h => h)
  exact ⟨ρ, h1, h2, rfl, hok⟩

def winA (n : Nat) (cu : Nat → Nat) (c : Nat) (L : List It) : AO := .one false 0 (.tab 3 L.length (gU 1 n cu L) c)
section

variable {n m c c0 : Nat} {cu : Nat → Nat} {us : Nat → List Int} {L : List It} {Kp : AV → AH → Prop}

theorem cloneI_call (hb : L.length ≤ 1000000000) : CallA Try.prog 66 [.sl 0 0 0 L.length c0] [winA n cu c L, .fam false m (uF us cu)]
    (fun r M => ∃ g' c', r = .sl 2 g' 0 L.length c' ∧ M = [winA n cu c L, .fam false m (uF us cu), aO 1 n cu g' c' L] ∧ L.length ≤ c') Kp := by
  refine CallA.post_view ?_
  refine step66 (fun _ => []) [] rfl ?_
  repeat ((conv => whnf); first | with_reducible refine O_step ?_ | with_reducible refine S_step ?_ | with_reducible refine D_step ?_ | with_reducible refine RO.exit ?_ | with_reducible refine RO.ret ?_ | ((with_reducible refine And.intro ?sc ?_); case sc => exact side) | ((with_reducible refine br_f ?sc ?_); case sc => exact sideB) | ((with_reducible refine br_t ?sc ?_); case sc => exact sideB))
  intro b hb
  repeat ((conv => whnf); first | with_reducible refine O_step ?_ | with_reducible refine S_step ?_ | with_reducible refine D_step ?_ | with_reducible refine RO.exit ?_ | with_reducible refine RO.ret ?_ | ((with_reducible refine And.intro ?sc ?_); case sc => exact side) | ((with_reducible refine br_f ?sc ?_); case sc => exact sideB) | ((with_reducible refine br_t ?sc ?_); case sc => exact sideB))
  refine And.intro (fun h1 => ?_) (fun h1 => ?_)
  · obtain ⟨h2, rfl⟩ := hb (by simpa using h1)
    repeat ((conv => whnf); first | with_reducible refine O_step ?_ | with_reducible refine S_step ?_ | with_reducible refine D_step ?_ | with_reducible refine RO.exit ?_ | with_reducible refine RO.ret ?_ | ((with_reducible refine And.intro ?sc ?_); case sc => exact side) | ((with_reducible refine br_f ?sc ?_); case sc => exact sideB) | ((with_reducible refine br_t ?sc ?_); case sc => exact sideB))
    refine ⟨_, _, Vw.nil (x := .tab 3 L.length (gU 1 n cu L) 0) ⟨h2, rfl⟩, 0, 0, ?_, rfl, by omega⟩
    show AV.sl 2 0 0 0 0 = AV.sl 2 0 0 L.length 0
    rw [h2]
  · repeat ((conv => whnf); first | with_reducible refine O_step ?_ | with_reducible refine S_step ?_ | with_reducible refine D_step ?_ | with_reducible refine RO.exit ?_ | with_reducible refine RO.ret ?_ | ((with_reducible refine And.intro ?sc ?_); case sc => exact side) | ((with_reducible refine br_f ?sc ?_); case sc => exact sideB) | ((with_reducible refine br_t ?sc ?_); case sc => exact sideB))
    refine And.intro (fun q _ => ⟨rfl, rfl⟩) ?_
    refine And.intro ⟨by omega, by show (0 + L.length) * 40 ≤ _; omega⟩ ?_
    refine Exists.intro (gU 1 n cu L) (And.intro (fun q _ => by rw [if_neg (Nat.not_lt_zero q)]; rfl) (fun c1 hc1 => ?_))
    repeat ((conv => whnf); first | with_reducible refine O_step ?_ | with_reducible refine S_step ?_ | with_reducible refine D_step ?_ | with_reducible refine RO.exit ?_ | with_reducible refine RO.ret ?_ | ((with_reducible refine And.intro ?sc ?_); case sc => exact side) | ((with_reducible refine br_f ?sc ?_); case sc => exact sideB) | ((with_reducible refine br_t ?sc ?_); case sc => exact sideB))
    refine ⟨_, _, Vw.refl _ _, 1, c1, ?_, ?_, by omega⟩
    · show AV.sl 2 1 0 (0 + L.length) c1 = _
      rw [Nat.zero_add]
    · show [winA n cu c L, AO.fam false m (uF us cu), AO.one true 1 (.tab 3 (0 + L.length) (gU 1 n cu L) c1)] = _
      rw [Nat.zero_add]; rfl
theorem cloneN_call {xs : List Int} (hb : xs.length ≤ 17592186044416) {Kp} :
    CallA Try.prog 68 [.sl 0 0 0 xs.length c0] [.one false 0 (.ints .i64 xs c)]
      (fun r M => ∃ g' c', r = .sl 1 g' 0 xs.length c' ∧ M = [.one false 0 (.ints .i64 xs c), .one true g' (.ints .i64 xs c')] ∧ xs.length ≤ c') Kp := by
  refine CallA.post_view ?_
  refine step68 (fun _ => []) [] rfl ?_
  repeat ((conv => whnf); first | with_reducible refine O_step ?_ | with_reducible refine S_step ?_ | with_reducible refine D_step ?_ | with_reducible refine RO.exit ?_ | with_reducible refine RO.ret ?_ | ((with_reducible refine And.intro ?sc ?_); case sc => exact side) | ((with_reducible refine br_f ?sc ?_); case sc => exact sideB) | ((with_reducible refine br_t ?sc ?_); case sc => exact sideB))
  intro b hb
  repeat ((conv => whnf); first | with_reducible refine O_step ?_ | with_reducible refine S_step ?_ | with_reducible refine D_step ?_ | with_reducible refine RO.exit ?_ | with_reducible refine RO.ret ?_ | ((with_reducible refine And.intro ?sc ?_); case sc => exact side) | ((with_reducible refine br_f ?sc ?_); case sc => exact sideB) | ((with_reducible refine br_t ?sc ?_); case sc => exact sideB))
  refine And.intro (fun h1 => ?_) (fun h1 => ?_)
  · obtain ⟨rfl, rfl⟩ := hb (by simpa using h1)
    repeat ((conv => whnf); first | with_reducible refine O_step ?_ | with_reducible refine S_step ?_ | with_reducible refine D_step ?_ | with_reducible refine RO.exit ?_ | with_reducible refine RO.ret ?_ | ((with_reducible refine And.intro ?sc ?_); case sc => exact side) | ((with_reducible refine br_f ?sc ?_); case sc => exact sideB) | ((with_reducible refine br_t ?sc ?_); case sc => exact sideB))
    exact ⟨_, _, Vw.nil (x := .ints .i64 [] 0) ⟨rfl, rfl⟩, 0, 0, rfl, rfl, Nat.le_refl _⟩
  · repeat ((conv => whnf); first | with_reducible refine O_step ?_ | with_reducible refine S_step ?_ | with_reducible refine D_step ?_ | with_reducible refine RO.exit ?_ | with_reducible refine RO.ret ?_ | ((with_reducible refine And.intro ?sc ?_); case sc => exact side) | ((with_reducible refine br_f ?sc ?_); case sc => exact sideB) | ((with_reducible refine br_t ?sc ?_); case sc => exact sideB))
    intro ys hys
    obtain rfl : xs = ys := by rw [hys]; simp
    repeat ((conv => whnf); first | with_reducible refine O_step ?_ | with_reducible refine S_step ?_ | with_reducible refine D_step ?_ | with_reducible refine RO.exit ?_ | with_reducible refine RO.ret ?_ | ((with_reducible refine And.intro ?sc ?_); case sc => exact side) | ((with_reducible refine br_f ?sc ?_); case sc => exact sideB) | ((with_reducible refine br_t ?sc ?_); case sc => exact sideB))
    intro c1 hc1
    repeat ((conv => whnf); first | with_reducible refine O_step ?_ | with_reducible refine S_step ?_ | with_reducible refine D_step ?_ | with_reducible refine RO.exit ?_ | with_reducible refine RO.ret ?_ | ((with_reducible refine And.intro ?sc ?_); case sc => exact side) | ((with_reducible refine br_f ?sc ?_); case sc => exact sideB) | ((with_reducible refine br_t ?sc ?_); case sc => exact sideB))
    refine ⟨_, _, Vw.refl _ _, 1, c1, ?_, rfl, by omega⟩
    show AV.sl 1 1 0 (0 + xs.length) c1 = _
    rw [Nat.zero_add]
theorem cloneN_at {M : AH} {K : AV → AH → Prop} {i g n co : Nat} {o : Bool} {xs : List Int} (hi : M[i]? = some (.one o g (.ints .i64 xs co))) (hn : n = xs.length) (hb : xs.length ≤ 17592186044416)
    (h : ∀ g' c', xs.length ≤ c' → K (.sl M.length g' 0 xs.length c') (M ++ [.one true g' (.ints .i64 xs c')])) : CallA Try.prog 68 [.sl i g 0 n c] M K Kp := by
  subst hn
  refine CallA.lift [.win i g 0] (cloneN_call (xs := xs) (c0 := c) (c := co) (Kp := fun _ _ => False) hb) rfl rfl ⟨⟨_, _, _, rfl, slot_one hi, WinC.same rfl (fun h => h)⟩, trivial⟩ ⟨trivial, trivial⟩ ?_ (fun _ _ h => h.elim)
  rintro r M' ⟨g', c', rfl, rfl, hc'⟩
  exact ⟨⟨rfl, rfl⟩, h g' c' hc'⟩

/-- The items numbered, the first i of them. -/
def numF (i : Nat) (L : List It) : List It := L.mapIdx fun j x => if j < i then { x with k := (j : Int) } else x
theorem numF_len (i : Nat) (L : List It) : (numF i L).length = L.length := by simp [numF]
theorem numF_getD (i : Nat) (L : List It) (j : Nat) (hj : j < L.length) : (numF i L).getD j default = if j < i then { L.getD j default with k := (j : Int) } else L.getD j default := by
  simp [numF, List.getD_eq_getElem?_getD, hj]
theorem num_store {u : Nat} (i : Nat) (L : List It) (r : Nat) (hr : r < L.length) (hi : i < L.length) :
    gU u n cu (numF (i + 1) L) r = (match Nat.beq r i with | true => splice (gU u n cu (numF i L) i) 1 [.int .i64 (i : Int)] | false => gU u n cu (numF i L) r) := by
  cases h : Nat.beq r i with
  | true =>
    obtain rfl := Nat.eq_of_beq_eq_true h
    show cellU u n cu ((numF (r + 1) L).getD r default) = splice (cellU u n cu ((numF r L).getD r default)) 1 [.int .i64 (r : Int)]
    rw [numF_getD _ _ _ hr, numF_getD _ _ _ hr, if_pos (by omega), if_neg (by omega)]
    rfl
  | false =>
    have hne := Nat.ne_of_beq_eq_false h
    show cellU u n cu ((numF (i + 1) L).getD r default) = cellU u n cu ((numF i L).getD r default)
    rw [numF_getD _ _ _ hr, numF_getD _ _ _ hr]
    by_cases h1 : r < i
    · rw [if_pos (by omega), if_pos h1]
    · rw [if_neg (by omega), if_neg h1]
end

end Go.Proofs.Yteinenklppbjkaa
