/- Layer 6: the queue of items: Len, Less, Swap. -/
import Derived.Test.YteinenklppbjkaaGx

set_option linter.unusedVariables false

set_option linter.unusedSimpArgs false

open Go.RowKit

namespace Go.Proofs.Yteinenklppbjkaa

set_option maxRecDepth 10000

/-- A call's bool in one form. -/
theorem CallA.post_asB {P : Program} {g : Nat} {args : List AV} {M : AH} {K Kp : AV → AH → Prop} (h : CallA P g args M (fun r M' => ∃ b, r.asB = some b ∧ K (.bo b) M') Kp) : CallA P g args M K Kp := by
  unfold CallA at *
  refine ⟨h.1, fun ρ w hs hok => Calls.mono (h.2 ρ w hs hok) fun e w' he => ?_⟩
  obtain ⟨ρ', M', h1, h2, h3⟩ := he
  cases e with
  | returned v =>
    obtain ⟨r, e1, e2, b, h4, h5⟩ := h3
    exact ⟨ρ', M', h1, h2, .bo b, by rw [e1, AV.asB_c ρ' h4]; rfl, trivial, h5⟩
  | panicked ch => exact ⟨ρ', M', h1, h2, h3⟩
  | outgrown => exact h3.elim

/-- An item: weight, number, the name of its uses. -/
structure It where
  w : Int
  k : Int
  u : Nat
  deriving DecidableEq, Inhabited
def lessI (a b : It) : Bool := decide (a.w < b.w) || (decide (a.w = b.w) && decide (a.k < b.k))
abbrev cellU (u n : Nat) (cu : Nat → Nat) (x : It) : List AV := [.int .i64 x.w, .int .i64 x.k, .sl u x.u 0 n (cu x.u)]

abbrev gU (u n : Nat) (cu : Nat → Nat) (L : List It) : Nat → List AV := fun j => cellU u n cu (L.getD j default)

def cellI (n : Nat) (cu : Nat → Nat) (x : It) : List AV := [.int .i64 x.w, .int .i64 x.k, .sl 2 x.u 0 n (cu x.u)]
def gI (n : Nat) (cu : Nat → Nat) (L : List It) : Nat → List AV := fun j => cellI n cu (L.getD j default)
def uF (us : Nat → List Int) (cu : Nat → Nat) : Nat → Cont := fun r => .ints .i64 (us r) (cu r)
/-- The queue, its array, the uses. -/
def qH (n : Nat) (cu : Nat → Nat) (us : Nat → List Int) (m g h hc c : Nat) (L : List It) : AH := [.one true 0 (.cells [.sl 1 g 0 h hc]), .one true g (.tab 3 L.length (gI n cu L) c), .fam false m (uF us cu)]
theorem qH_nb {n m g h hc c : Nat} {cu : Nat → Nat} {us : Nat → List Int} {L : List It} : nbH (qH n cu us m g h hc c L).length (qH n cu us m g h hc c L) := ⟨rfl, fun _ => rfl, fun _ => trivial, trivial⟩
def swapL (L : List It) (i j : Nat) : List It := (L.set i (L.getD j default)).set j (L.getD i default)
theorem swapL_len (L : List It) (i j : Nat) : (swapL L i j).length = L.length := by simp [swapL]

section

variable {n m g h hc c : Nat} {cu : Nat → Nat} {us : Nat → List Int} {L : List It} {K Kp : AV → AH → Prop}

theorem qlen_call (hK : K (.int .i64 (h : Int)) (qH n cu us m g h hc c L)) : CallA Try.prog 67 [.sl 1 g 0 h hc] (qH n cu us m g h hc c L) K Kp := by
  refine step67 (fun _ => []) [] rfl ?_
  repeat ((conv => whnf); first | with_reducible refine O_step ?_ | with_reducible refine S_step ?_ | with_reducible refine D_step ?_ | with_reducible refine RO.exit ?_ | with_reducible refine RO.ret ?_ | ((with_reducible refine And.intro ?sc ?_); case sc => exact side))
  exact hK
theorem qless_call {i j : Nat} {vi vj : Int} (hvi : vi = (i : Int)) (hvj : vj = (j : Int)) (hi : i < h) (hj : j < h) (hh : h ≤ L.length) (hK : K (.bo (lessI (L.getD i default) (L.getD j default))) (qH n cu us m g h hc c L)) :
    CallA Try.prog 89 [.sl 1 g 0 h hc, .int .i64 vi, .int .i64 vj] (qH n cu us m g h hc c L) K Kp := by
  subst hvi; subst hvj
  refine CallA.post_asB ?_
  refine step89 (fun _ => [1]) [] rfl ?_
  repeat ((conv => whnf); first | with_reducible refine O_step ?_ | with_reducible refine S_step ?_ | with_reducible refine D_step ?_ | with_reducible refine RO.exit ?_ | with_reducible refine RO.ret ?_ | ((with_reducible refine And.intro ?sc ?_); case sc => exact side) | ((with_reducible refine br_f ?sc ?_); case sc => exact sideB) | ((with_reducible refine br_t ?sc ?_); case sc => exact sideB))
  refine And.intro (fun h1 => ?_) (fun h1 => ?_)
  · repeat ((conv => whnf); first | with_reducible refine O_step ?_ | with_reducible refine S_step ?_ | with_reducible refine D_step ?_ | with_reducible refine RO.exit ?_ | with_reducible refine RO.ret ?_ | ((with_reducible refine And.intro ?sc ?_); case sc => exact side) | ((with_reducible refine br_f ?sc ?_); case sc => exact sideB) | ((with_reducible refine br_t ?sc ?_); case sc => exact sideB))
    refine ⟨_, rfl, ?_⟩
    have e : lessI (L.getD i default) (L.getD j default) = true := by unfold lessI; simp only [Int.toNat_natCast] at h1; rw [h1]; rfl
    rw [e] at hK; exact hK
  · repeat ((conv => whnf); first | with_reducible refine O_step ?_ | with_reducible refine S_step ?_ | with_reducible refine D_step ?_ | with_reducible refine RO.exit ?_ | with_reducible refine RO.ret ?_ | ((with_reducible refine And.intro ?sc ?_); case sc => exact side) | ((with_reducible refine br_f ?sc ?_); case sc => exact sideB) | ((with_reducible refine br_t ?sc ?_); case sc => exact sideB))
    refine And.intro (fun h2 => ?_) (fun h2 => ?_)
    · repeat ((conv => whnf); first | with_reducible refine O_step ?_ | with_reducible refine S_step ?_ | with_reducible refine D_step ?_ | with_reducible refine RO.exit ?_ | with_reducible refine RO.ret ?_ | ((with_reducible refine And.intro ?sc ?_); case sc => exact side) | ((with_reducible refine br_f ?sc ?_); case sc => exact sideB) | ((with_reducible refine br_t ?sc ?_); case sc => exact sideB))
      refine ⟨_, rfl, ?_⟩
      have e : lessI (L.getD i default) (L.getD j default) = decide ((L.getD i default).k < (L.getD j default).k) := by unfold lessI; simp only [Int.toNat_natCast] at h1 h2; rw [h1, h2]; simp
      rw [e] at hK; exact hK
    · repeat ((conv => whnf); first | with_reducible refine O_step ?_ | with_reducible refine S_step ?_ | with_reducible refine D_step ?_ | with_reducible refine RO.exit ?_ | with_reducible refine RO.ret ?_ | ((with_reducible refine And.intro ?sc ?_); case sc => exact side) | ((with_reducible refine br_f ?sc ?_); case sc => exact sideB) | ((with_reducible refine br_t ?sc ?_); case sc => exact sideB))
      refine ⟨_, rfl, ?_⟩
      have e : lessI (L.getD i default) (L.getD j default) = false := by unfold lessI; simp only [Int.toNat_natCast] at h1 h2; rw [h1, h2]; simp
      rw [e] at hK; exact hK
theorem condT_mk {b : Bool} {p : Prop} (hb : b = true) (h : p) : condT b p := by subst hb; exact h
theorem swap_get (i j : Nat) (hi : i < L.length) (hj : j < L.length) : (fun r => match Nat.beq r j with | true => splice (match Nat.beq j i with | true => splice (gI n cu L i) 0 (gI n cu L j) | false => gI n cu L j) 0 (gI n cu L i) | false => match Nat.beq r i with | true => splice (gI n cu L i) 0 (gI n cu L j) | false => gI n cu L r) = gI n cu (swapL L i j) := by
  have key : ∀ a b : Nat, splice (gI n cu L a) 0 (gI n cu L b) = gI n cu L b := fun a b => rfl
  funext r
  have hg : gI n cu (swapL L i j) r = if r = j then gI n cu L i else if r = i then gI n cu L j else gI n cu L r := by
    unfold gI swapL
    by_cases h1 : r = j
    · subst h1; rw [if_pos rfl]; simp [List.getD_eq_getElem?_getD, hj]
    · by_cases h2 : r = i
      · subst h2; rw [if_neg h1, if_pos rfl, List.getD_eq_getElem?_getD, List.getElem?_set_ne (Ne.symm h1), List.getElem?_set_self hi]; rfl
      · rw [if_neg h1, if_neg h2]; simp [List.getD_eq_getElem?_getD, List.getElem?_set_ne (Ne.symm h1), List.getElem?_set_ne (Ne.symm h2)]
  rw [hg]
  cases h1 : Nat.beq r j with
  | true =>
    obtain rfl := Nat.eq_of_beq_eq_true h1
    rw [if_pos rfl]
    cases Nat.beq r i <;> rfl
  | false =>
    rw [if_neg (Nat.ne_of_beq_eq_false h1)]
    cases h2 : Nat.beq r i with
    | true =>
      obtain rfl := Nat.eq_of_beq_eq_true h2
      rw [if_pos rfl]; exact key _ _
    | false => rw [if_neg (Nat.ne_of_beq_eq_false h2)]
theorem qswap_call {i j : Nat} {vi vj : Int} (hvi : vi = (i : Int)) (hvj : vj = (j : Int)) (hi : i < h) (hj : j < h) (hh : h ≤ L.length) (hlc : L.length ≤ c) (hK : K (.tup []) (qH n cu us m g h hc c (swapL L i j))) :
    CallA Try.prog 90 [.sl 1 g 0 h hc, .int .i64 vi, .int .i64 vj] (qH n cu us m g h hc c L) K Kp := by
  subst hvi; subst hvj
  have hi' : i < L.length := by omega
  have hj' : j < L.length := by omega
  rw [show qH n cu us m g h hc c (swapL L i j) = [AO.one true 0 (.cells [.sl 1 g 0 h hc]), AO.one true g (.tab 3 L.length (gI n cu (swapL L i j)) c), AO.fam false m (uF us cu)] by unfold qH; rw [swapL_len], ← swap_get i j hi' hj'] at hK
  refine step90 (fun _ => [1]) [] rfl ?_
  repeat ((conv => whnf); first | with_reducible refine O_step ?_ | with_reducible refine S_step ?_ | with_reducible refine D_step ?_ | with_reducible refine RO.exit ?_ | with_reducible refine RO.ret ?_ | ((with_reducible refine And.intro ?sc ?_); case sc => exact side) | ((with_reducible refine br_f ?sc ?_); case sc => exact sideB) | ((with_reducible refine br_t ?sc ?_); case sc => exact sideB))
  conv => whnf
  refine (condT_mk ?_ ?_ : condT (Nat.ble 3 (match Nat.beq (j:Int).toNat (i:Int).toNat with | true => splice (gI n cu L (i:Int).toNat) 0 (gI n cu L (j:Int).toNat) | false => gI n cu L (j:Int).toNat).length) _)
  · cases Nat.beq (j:Int).toNat (i:Int).toNat <;> rfl
  repeat ((conv => whnf); first | with_reducible refine O_step ?_ | with_reducible refine S_step ?_ | with_reducible refine D_step ?_ | with_reducible refine RO.exit ?_ | with_reducible refine RO.ret ?_ | ((with_reducible refine And.intro ?sc ?_); case sc => exact side) | ((with_reducible refine br_f ?sc ?_); case sc => exact sideB) | ((with_reducible refine br_t ?sc ?_); case sc => exact sideB))
  exact hK
end

end Go.Proofs.Yteinenklppbjkaa
