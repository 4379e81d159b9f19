/- Layer 6: the queue's Pop, the heap's Pop, take. -/
import Derived.Test.YteinenklppbjkaaH1

set_option linter.unusedVariables false

set_option linter.unusedSimpArgs false

open Go.RowKit

namespace Go.Proofs.Yteinenklppbjkaa

set_option maxRecDepth 10000

/-- What is left when the least one is gone: it lies behind. -/
def popF (h : Nat) (L : List It) : List It := downF (h - 1) (swapL L 0 (h - 1)) 0
theorem popF_len (h : Nat) (L : List It) : (popF h L).length = L.length := by unfold popF; rw [downF_len, swapL_len]

section

variable {n m g h hcap c : Nat} {cu : Nat → Nat} {us : Nat → List Int} {K Kp : AV → AH → Prop}

theorem qpop_call {L : List It} (hh : h + 1 ≤ L.length) (hcp : h + 1 ≤ hcap) (hb : L.length ≤ 1099511627776) (hK : K (.ifc 110 (.agg (cellI n cu (L.getD h default)))) (qH n cu us m g h hcap c L)) :
    CallA Try.prog 91 [.ptr 0 0 0] (qH n cu us m g (h + 1) hcap c L) K Kp := by
  refine CallA.post_sub ?_
  have e : (((h + 1 : Nat) : Int) - 1).toNat = h := by omega
  refine step91 (fun _ => []) [] rfl ?_
  repeat ((conv => whnf); first | with_reducible refine O_step ?_ | with_reducible refine S_step ?_ | with_reducible refine D_step ?_ | with_reducible refine RO.exit ?_ | with_reducible refine RO.ret ?_ | ((with_reducible refine And.intro ?sc ?_); case sc => exact side) | ((with_reducible refine br_f ?sc ?_); case sc => exact sideB) | ((with_reducible refine br_t ?sc ?_); case sc => exact sideB))
  refine Exists.intro (qH n cu us m g (((h + 1 : Nat) : Int) - 1).toNat hcap c L) (And.intro (And.intro rfl (And.intro rfl (And.intro rfl (trivial)))) (And.intro qH_nb (And.intro rfl ?_)))
  show K (.ifc 110 (.agg (cellI n cu (L.getD (((h + 1 : Nat) : Int) - 1).toNat default)))) _
  rw [e]
  exact hK
theorem hpop_call {L : List It} (hh : h + 1 ≤ L.length) (hlc : L.length ≤ c) (hcp : h + 1 ≤ hcap) (hb : L.length ≤ 1099511627776) (hK : K (.ifc 110 (.agg (cellI n cu ((popF (h + 1) L).getD h default)))) (qH n cu us m g h hcap c (popF (h + 1) L))) :
    CallA Try.prog 70 [.ifc 114 (.ptr 0 0 0)] (qH n cu us m g (h + 1) hcap c L) K Kp := by
  refine step70 (fun _ => []) [] rfl ?_
  repeat ((conv => whnf); first | with_reducible refine O_step ?_ | with_reducible refine S_step ?_ | with_reducible refine D_step ?_ | with_reducible refine RO.exit ?_ | with_reducible refine RO.ret ?_ | ((with_reducible refine And.intro ?sc ?_); case sc => exact side) | ((with_reducible refine br_f ?sc ?_); case sc => exact sideB) | ((with_reducible refine br_t ?sc ?_); case sc => exact sideB))
  conv => whnf
  refine Exists.intro 67 (Exists.intro (some 112) (And.intro (by kernel_rfl) ?_))
  repeat ((conv => whnf); first | with_reducible refine O_step ?_ | with_reducible refine S_step ?_ | with_reducible refine D_step ?_ | with_reducible refine RO.exit ?_ | with_reducible refine RO.ret ?_ | ((with_reducible refine And.intro ?sc ?_); case sc => exact side) | ((with_reducible refine br_f ?sc ?_); case sc => exact sideB) | ((with_reducible refine br_t ?sc ?_); case sc => exact sideB))
  refine qlen_call ?_
  repeat ((conv => whnf); first | with_reducible refine O_step ?_ | with_reducible refine S_step ?_ | with_reducible refine D_step ?_ | with_reducible refine RO.exit ?_ | with_reducible refine RO.ret ?_ | ((with_reducible refine And.intro ?sc ?_); case sc => exact side) | ((with_reducible refine br_f ?sc ?_); case sc => exact sideB) | ((with_reducible refine br_t ?sc ?_); case sc => exact sideB))
  conv => whnf
  refine Exists.intro 90 (Exists.intro (some 112) (And.intro (by kernel_rfl) ?_))
  repeat ((conv => whnf); first | with_reducible refine O_step ?_ | with_reducible refine S_step ?_ | with_reducible refine D_step ?_ | with_reducible refine RO.exit ?_ | with_reducible refine RO.ret ?_ | ((with_reducible refine And.intro ?sc ?_); case sc => exact side) | ((with_reducible refine br_f ?sc ?_); case sc => exact sideB) | ((with_reducible refine br_t ?sc ?_); case sc => exact sideB))
  refine qswap_call (i := 0) (j := h) (L := L) rfl (by show ((h + 1 : Nat) : Int) - 1 = _; omega) (by omega) (by omega) (by omega) (by omega) ?_
  repeat ((conv => whnf); first | with_reducible refine O_step ?_ | with_reducible refine S_step ?_ | with_reducible refine D_step ?_ | with_reducible refine RO.exit ?_ | with_reducible refine RO.ret ?_ | ((with_reducible refine And.intro ?sc ?_); case sc => exact side))
  refine down_call (L := swapL L 0 h) (h := h + 1) (c := c) (i0 := 0) (N := h) rfl (by show ((h + 1 : Nat) : Int) - 1 = _; omega) (by omega) (by omega) (by rw [swapL_len]; omega) (by rw [swapL_len]; omega) (by rw [swapL_len]; omega) fun b => ?_
  repeat ((conv => whnf); first | with_reducible refine O_step ?_ | with_reducible refine S_step ?_ | with_reducible refine D_step ?_ | with_reducible refine RO.exit ?_ | with_reducible refine RO.ret ?_ | ((with_reducible refine And.intro ?sc ?_); case sc => exact side) | ((with_reducible refine br_f ?sc ?_); case sc => exact sideB) | ((with_reducible refine br_t ?sc ?_); case sc => exact sideB))
  conv => whnf
  refine Exists.intro 91 (Exists.intro none (And.intro (by kernel_rfl) ?_))
  refine qpop_call (L := popF (h + 1) L) (by rw [popF_len]; omega) (by omega) (by rw [popF_len]; omega) ?_
  repeat ((conv => whnf); first | with_reducible refine O_step ?_ | with_reducible refine S_step ?_ | with_reducible refine D_step ?_ | with_reducible refine RO.exit ?_ | with_reducible refine RO.ret ?_ | ((with_reducible refine And.intro ?sc ?_); case sc => exact side))
  exact hK
/-- The queue and its array, in whatever heap. -/
def qO (a g h hcap : Nat) : AO := .one true 0 (.cells [.sl a g 0 h hcap])
def aO (u n : Nat) (cu : Nat → Nat) (g c : Nat) (L : List It) : AO := .one true g (.tab 3 L.length (gU u n cu L) c)
theorem upQ {M : AH} {fn q a u h' : Nat} {args : List AV} {r0 : AV} {L L' : List It} (h0 : ∀ K : AV → AH → Prop, K r0 (qH n cu us m g h' hcap c L') → CallA Try.prog fn args (qH n cu us m g h hcap c L) K (fun _ _ => False))
    (hq : M[q]? = some (qO a g h hcap)) (ha : M[a]? = some (aO u n cu g c L)) (hu : M[u]? = some (.fam false m (uF us cu))) (hne : (Nat.beq q a || Nat.beq q u || Nat.beq a u) = false)
    (hargs : AV.w0l [.own q, .own a, .sha u] args = true) (hK : K (r0.rn [.own q, .own a, .sha u] M.length) ((M.set q (qO a g h' hcap)).set a (aO u n cu g c L'))) :
    CallA Try.prog fn (AV.rnl [.own q, .own a, .sha u] M.length args) M K Kp := by
  simp only [Bool.or_eq_false_iff] at hne
  refine CallA.lift [.own q, .own a, .sha u] (h0 (fun r M => r = r0 ∧ M = qH n cu us m g h' hcap c L') ⟨rfl, rfl⟩) rfl
    (by simp [apartT, TE.isOwn, TE.i, hne.1.1, hne.1.2, hne.2, hargs]) ⟨⟨hq, rfl⟩, ⟨ha, rfl⟩, ⟨rfl, _, hu, rfl⟩, trivial⟩ ⟨rfl, fun _ => rfl, fun _ => trivial, trivial⟩ ?_ (fun _ _ h => h.elim)
  rintro r M' ⟨rfl, rfl⟩
  refine ⟨⟨rfl, rfl, rfl, rfl⟩, ?_⟩
  rw [← List.append_nil ((M.set q _).set a _)] at hK
  exact hK
theorem qlen_at {M : AH} {q a u : Nat} {L : List It} (hq : M[q]? = some (qO a g h hcap)) (ha : M[a]? = some (aO u n cu g c L)) (hu : M[u]? = some (.fam false m (uF us cu))) (hne : (Nat.beq q a || Nat.beq q u || Nat.beq a u) = false)
    (hK : K (.int .i64 (h : Int)) ((M.set q (qO a g h hcap)).set a (aO u n cu g c L))) :
    CallA Try.prog 67 [.sl a g 0 h hcap] M K Kp :=
  upQ (args := [.sl 1 g 0 h hcap]) (fun K hk => qlen_call hk) hq ha hu hne rfl hK
theorem init_at {M : AH} {q a u : Nat} {L : List It} (hq : M[q]? = some (qO a g h hcap)) (ha : M[a]? = some (aO u n cu g c L)) (hu : M[u]? = some (.fam false m (uF us cu))) (hne : (Nat.beq q a || Nat.beq q u || Nat.beq a u) = false)
    (hh : h ≤ L.length) (hlc : L.length ≤ c) (hb : L.length ≤ 1099511627776) (hK : K (.tup []) ((M.set q (qO a g h hcap)).set a (aO u n cu g c (initF h (h / 2) L)))) :
    CallA Try.prog 57 [.ifc 114 (.ptr q 0 0)] M K Kp :=
  upQ (args := [.ifc 114 (.ptr 0 0 0)]) (fun K hk => init_call hh hlc hb hk) hq ha hu hne rfl hK
theorem hpop_at {M : AH} {q a u : Nat} {L : List It} (hq : M[q]? = some (qO a g (h + 1) hcap)) (ha : M[a]? = some (aO u n cu g c L)) (hu : M[u]? = some (.fam false m (uF us cu))) (hne : (Nat.beq q a || Nat.beq q u || Nat.beq a u) = false)
    (hh : h + 1 ≤ L.length) (hlc : L.length ≤ c) (hcp : h + 1 ≤ hcap) (hb : L.length ≤ 1099511627776)
    (hK : K (.ifc 110 (.agg (cellU u n cu ((popF (h + 1) L).getD h default)))) ((M.set q (qO a g h hcap)).set a (aO u n cu g c (popF (h + 1) L)))) :
    CallA Try.prog 70 [.ifc 114 (.ptr q 0 0)] M K Kp :=
  upQ (args := [.ifc 114 (.ptr 0 0 0)]) (fun K hk => hpop_call hh hlc hcp hb hk) hq ha hu hne rfl hK
theorem take_call {L : List It} (hh : h + 1 ≤ L.length) (hlc : L.length ≤ c) (hcp : h + 1 ≤ hcap) (hb : L.length ≤ 1099511627776) (hK : K (.agg (cellI n cu ((popF (h + 1) L).getD h default))) (qH n cu us m g h hcap c (popF (h + 1) L))) :
    CallA Try.prog 58 [.ptr 0 0 0] (qH n cu us m g (h + 1) hcap c L) K Kp := by
  refine CallA.post_sub ?_
  refine step58 (fun _ => []) [] rfl ?_
  repeat ((conv => whnf); first | with_reducible refine O_step ?_ | with_reducible refine S_step ?_ | with_reducible refine D_step ?_ | with_reducible refine RO.exit ?_ | with_reducible refine RO.ret ?_ | ((with_reducible refine And.intro ?sc ?_); case sc => exact side) | ((with_reducible refine br_f ?sc ?_); case sc => exact sideB) | ((with_reducible refine br_t ?sc ?_); case sc => exact sideB))
  refine hpop_at (q := 0) (a := 1) (u := 2) (L := L) rfl rfl rfl rfl hh hlc hcp hb ?_
  repeat ((conv => whnf); first | with_reducible refine O_step ?_ | with_reducible refine S_step ?_ | with_reducible refine D_step ?_ | with_reducible refine RO.exit ?_ | with_reducible refine RO.ret ?_ | ((with_reducible refine And.intro ?sc ?_); case sc => exact side) | ((with_reducible refine br_f ?sc ?_); case sc => exact sideB) | ((with_reducible refine br_t ?sc ?_); case sc => exact sideB))
  exact Exists.intro (qH n cu us m g h hcap c (popF (h + 1) L)) (And.intro (And.intro rfl (And.intro rfl (And.intro rfl (trivial)))) (And.intro qH_nb (And.intro rfl hK)))
theorem take_at {M : AH} {q a u : Nat} {L : List It} (hq : M[q]? = some (qO a g (h + 1) hcap)) (ha : M[a]? = some (aO u n cu g c L)) (hu : M[u]? = some (.fam false m (uF us cu))) (hne : (Nat.beq q a || Nat.beq q u || Nat.beq a u) = false)
    (hh : h + 1 ≤ L.length) (hlc : L.length ≤ c) (hcp : h + 1 ≤ hcap) (hb : L.length ≤ 1099511627776)
    (hK : K (.agg (cellU u n cu ((popF (h + 1) L).getD h default))) ((M.set q (qO a g h hcap)).set a (aO u n cu g c (popF (h + 1) L)))) :
    CallA Try.prog 58 [.ptr q 0 0] M K Kp :=
  upQ (args := [.ptr 0 0 0]) (fun K hk => take_call hh hlc hcp hb hk) hq ha hu hne rfl hK
/-- One more of the array's items is taken; its uses are an object of their own. -/
theorem take_pull {M : AH} {q a u : Nat} {L : List It} (hq : M[q]? = some (qO a g (h + 1) hcap)) (ha : M[a]? = some (aO u n cu g c L)) (hu : M[u]? = some (.fam false m (uF us cu))) (hne : (Nat.beq q a || Nat.beq q u || Nat.beq a u) = false)
    (hh : h + 1 ≤ L.length) (hlc : L.length ≤ c) (hcp : h + 1 ≤ hcap) (hb : L.length ≤ 1099511627776) (x : It) (hx : (popF (h + 1) L).getD h default = x) (hxm : x.u < m) (hqu : Nat.blt q M.length = true)
    (hK : K (.agg [.int .i64 x.w, .int .i64 x.k, .sl M.length 0 0 n (cu x.u)]) ((M.set q (qO a g h hcap)).set a (aO u n cu g c (popF (h + 1) L)) ++ [.one false 0 (.ints .i64 (us x.u) (cu x.u))])) :
    CallA Try.prog 58 [.ptr q 0 0] M K Kp := by
  refine CallA.post_view (take_at hq ha hu hne hh hlc hcp hb ?_)
  rw [hx]
  simp only [Bool.or_eq_false_iff] at hne
  refine ⟨_, _, Vw.pull (i := u) (g := x.u) (x := .ints .i64 (us x.u) (cu x.u)) ?_ ?_, hK⟩
  · unfold slot
    rw [List.getElem?_set_ne (Nat.ne_of_beq_eq_false hne.2), List.getElem?_set_ne (Nat.ne_of_beq_eq_false hne.1.2), hu]
    simp only [slotO, if_pos hxm, uF]
  · simp [AV.rml, AV.rm, phi1]
end

end Go.Proofs.Yteinenklppbjkaa
