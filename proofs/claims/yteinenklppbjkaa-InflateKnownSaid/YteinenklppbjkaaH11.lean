/- Layer 6: Codes, New. -/
import Derived.Test.YteinenklppbjkaaH10

set_option linter.unusedVariables false

set_option linter.unusedSimpArgs false

open Go.RowKit

namespace Go.Proofs.Yteinenklppbjkaa

set_option maxRecDepth 10000

theorem mz_rn (t : List TE) (m : Nat) (mk : MK) (ez : List ((Int × Int) × Int)) : (Cont.map mk (mzM ez)).rn t m = Cont.map mk (mzM ez) := by
  simp [Cont.rn, mzM, AV.rn]
theorem mz_w0 (t : List TE) (mk : MK) (ez : List ((Int × Int) × Int)) : (Cont.map mk (mzM ez)).w0 t := by
  intro p hp
  obtain ⟨q, _, rfl⟩ := List.mem_map.1 hp
  rfl
theorem mz_nb (k : Nat) (mk : MK) (ez : List ((Int × Int) × Int)) : (Cont.map mk (mzM ez)).nb k := by
  intro p hp
  obtain ⟨q, _, rfl⟩ := List.mem_map.1 hp
  rfl
def codesF (ls : List Int) : List Int × Int := if eachE ls = 0 then (layC (tellS ls 15).2 (List.replicate ls.length 0), 0) else ([], eachE ls)
section

variable {ls : List Int} {c c0 : Nat} {K Kp : AV → AH → Prop}

theorem codes_call (hl : ls.length ≤ 2000) (hu : ∀ x ∈ ls, 0 ≤ x ∧ x < 256) :
    CallA Try.prog 25 [.sl 0 0 0 ls.length c0] [.one false 0 (.ints .u8 ls c)]
      (fun r M => ∃ g' c', r = .tup [.sl 1 g' 0 (codesF ls).1.length c', .int .i64 (codesF ls).2] ∧ M = [.one false 0 (.ints .u8 ls c), .one true g' (.ints .u16 (codesF ls).1 c')] ∧ (codesF ls).1.length ≤ c') Kp := by
  refine CallA.post_pick ?_
  refine CallA.post_view ?_
  refine step25 (fun _ => []) [] rfl ?_
  repeat ((conv => whnf); first | with_reducible refine O_step ?_ | with_reducible refine S_step ?_ | with_reducible refine D_step ?_ | with_reducible refine RO.exit ?_ | with_reducible refine RO.ret ?_ | ((with_reducible refine And.intro ?sc ?_); case sc => exact side) | ((with_reducible refine br_f ?sc ?_); case sc => exact sideB) | ((with_reducible refine br_t ?sc ?_); case sc => exact sideB))
  refine eachC_call (co := (min (ls.length : Int) 320).toNat) (o0 := List.replicate (min (ls.length : Int) 320).toNat 0) hl hu (fun h => ?_) ?_
  · have : (min (ls.length : Int) 320).toNat = ls.length := by omega
    exact ⟨by rw [List.length_replicate, this], this⟩
  repeat ((conv => whnf); first | with_reducible refine O_step ?_ | with_reducible refine S_step ?_ | with_reducible refine D_step ?_ | with_reducible refine RO.exit ?_ | with_reducible refine RO.ret ?_ | ((with_reducible refine And.intro ?sc ?_); case sc => exact side) | ((with_reducible refine br_f ?sc ?_); case sc => exact sideB) | ((with_reducible refine br_t ?sc ?_); case sc => exact sideB))
  refine And.intro (fun h1 => ?_) (fun h1 => ?_)
  · have h1' : ¬ eachE ls = 0 := by simpa using h1
    repeat ((conv => whnf); first | with_reducible refine O_step ?_ | with_reducible refine S_step ?_ | with_reducible refine D_step ?_ | with_reducible refine RO.exit ?_ | with_reducible refine RO.ret ?_ | ((with_reducible refine And.intro ?sc ?_); case sc => exact side) | ((with_reducible refine br_f ?sc ?_); case sc => exact sideB) | ((with_reducible refine br_t ?sc ?_); case sc => exact sideB))
    refine ⟨_, _, Vw.canon (x := .ints .u16 [] 0) ⟨rfl, rfl⟩ (cnL_cons (cnV_tup (cnL_cons (by simp only [cnV]; exact .inr rfl) (cnL_cons (cnV_refl _ _) (cnL_nil _)))) (cnL_nil _)), [.sha 0, .own 3], .tup [.sl 1 0 0 0 0, .int .i64 (eachE ls)], [.one false 0 (.ints .u8 ls c), .one true 0 (.ints .u16 [] 0)], ⟨⟨⟨rfl, _, rfl, rfl⟩, ⟨rfl, rfl⟩, trivial⟩, rfl, ⟨trivial, trivial, trivial⟩, rfl, ?_⟩, ?_⟩
    · intro i hi
      match i, hi with
      | 0, _ => exact .inr rfl
    · unfold codesF
      rw [if_neg h1']
      exact ⟨0, 0, rfl, rfl, Nat.le_refl _⟩
  · have h1' : eachE ls = 0 := by simpa using h1
    have hb : badL ls = false := by
      cases hb : badL ls with
      | false => rfl
      | true => rw [eachE_bad hb] at h1'; cases h1'
    have hl3 : ls.length ≤ 320 := by
      unfold badL at hb
      simp only [Bool.or_eq_false_iff, decide_eq_false_iff_not] at hb
      omega
    have hm : (min (ls.length : Int) 320).toNat = ls.length := by omega
    repeat ((conv => whnf); first | with_reducible refine O_step ?_ | with_reducible refine S_step ?_ | with_reducible refine D_step ?_ | with_reducible refine RO.exit ?_ | with_reducible refine RO.ret ?_ | ((with_reducible refine And.intro ?sc ?_); case sc => exact side) | ((with_reducible refine br_f ?sc ?_); case sc => exact sideB) | ((with_reducible refine br_t ?sc ?_); case sc => exact sideB))
    refine ⟨_, _, Vw.refl _ _, [.sha 0, .own 1], .tup [.sl 1 0 0 (min (ls.length : Int) 320).toNat (min (ls.length : Int) 320).toNat, .int .i64 0], [.one false 0 (.ints .u8 ls c), .one true 0 (.ints .u16 (if eachE ls = 0 then layC (tellS ls 15).2 (List.replicate (min (ls.length : Int) 320).toNat 0) else List.replicate (min (ls.length : Int) 320).toNat 0) (min (ls.length : Int) 320).toNat)], ⟨⟨⟨rfl, _, rfl, rfl⟩, ⟨rfl, rfl⟩, trivial⟩, rfl, ⟨trivial, trivial, trivial⟩, rfl, ?_⟩, ?_⟩
    · intro i hi
      match i, hi with
      | 0, _ => exact .inr rfl
    · unfold codesF
      rw [if_pos h1', if_pos h1', hm]
      exact ⟨0, ls.length, by simp only [layC_len, List.length_replicate], rfl, by simp only [layC_len, List.length_replicate]; exact Nat.le_refl _⟩
/-- New: a table, or nil. -/
theorem hnew_call (hl : ls.length ≤ 2000) (hu : ∀ x ∈ ls, 0 ≤ x ∧ x < 256) :
    CallA Try.prog 52 [.sl 0 0 0 ls.length c0] [.one false 0 (.ints .u8 ls c)]
      (fun r M => (eachE ls ≠ 0 ∧ r = .tup [.np, .int .i64 (eachE ls)] ∧ M = [.one false 0 (.ints .u8 ls c)]) ∨ (eachE ls = 0 ∧ r = .tup [.ptr 2 0 0, .int .i64 0] ∧ M = [.one false 0 (.ints .u8 ls c), .one true 0 (.map (.pair .i64 .i64) (mzM (layM (tellS ls 15).2 []))), .one true 0 (.cells [.mp 1 0])])) Kp := by
  refine CallA.post_pick ?_
  refine step52 (fun _ => []) [] rfl ?_
  repeat ((conv => whnf); first | with_reducible refine O_step ?_ | with_reducible refine S_step ?_ | with_reducible refine D_step ?_ | with_reducible refine RO.exit ?_ | with_reducible refine RO.ret ?_ | ((with_reducible refine And.intro ?sc ?_); case sc => exact side) | ((with_reducible refine br_f ?sc ?_); case sc => exact sideB) | ((with_reducible refine br_t ?sc ?_); case sc => exact sideB))
  refine eachN_call hl hu ?_
  repeat ((conv => whnf); first | with_reducible refine O_step ?_ | with_reducible refine S_step ?_ | with_reducible refine D_step ?_ | with_reducible refine RO.exit ?_ | with_reducible refine RO.ret ?_ | ((with_reducible refine And.intro ?sc ?_); case sc => exact side) | ((with_reducible refine br_f ?sc ?_); case sc => exact sideB) | ((with_reducible refine br_t ?sc ?_); case sc => exact sideB))
  refine And.intro (fun h1 => ?_) (fun h1 => ?_)
  · have h1' : ¬ eachE ls = 0 := by simpa using h1
    repeat ((conv => whnf); first | with_reducible refine O_step ?_ | with_reducible refine S_step ?_ | with_reducible refine D_step ?_ | with_reducible refine RO.exit ?_ | with_reducible refine RO.ret ?_ | ((with_reducible refine And.intro ?sc ?_); case sc => exact side) | ((with_reducible refine br_f ?sc ?_); case sc => exact sideB) | ((with_reducible refine br_t ?sc ?_); case sc => exact sideB))
    refine ⟨[.sha 0], .tup [.np, .int .i64 (eachE ls)], [.one false 0 (.ints .u8 ls c)], ⟨⟨⟨rfl, _, rfl, rfl⟩, trivial⟩, rfl, ⟨trivial, trivial⟩, rfl, ?_⟩, .inl ⟨h1', rfl, rfl⟩⟩
    intro i hi
    match i, hi with
    | 0, _ => exact .inr rfl
  · have h1' : eachE ls = 0 := by simpa using h1
    rw [if_pos h1']
    repeat ((conv => whnf); first | with_reducible refine O_step ?_ | with_reducible refine S_step ?_ | with_reducible refine D_step ?_ | with_reducible refine RO.exit ?_ | with_reducible refine RO.ret ?_ | ((with_reducible refine And.intro ?sc ?_); case sc => exact side) | ((with_reducible refine br_f ?sc ?_); case sc => exact sideB) | ((with_reducible refine br_t ?sc ?_); case sc => exact sideB))
    refine ⟨[.sha 0, .own 1, .own 2], .tup [.ptr 2 0 0, .int .i64 0], [.one false 0 (.ints .u8 ls c), .one true 0 (.map (.pair .i64 .i64) (mzM (layM (tellS ls 15).2 []))), .one true 0 (.cells [.mp 1 0])], ⟨⟨⟨rfl, _, rfl, rfl⟩, ⟨?_, rfl⟩, ⟨rfl, rfl⟩, trivial⟩, rfl, ⟨trivial, ?_, rfl, trivial⟩, rfl, ?_⟩, .inr ⟨h1', rfl, rfl⟩⟩
    · show _ = some (AO.one true 0 ((Cont.map (.pair .i64 .i64) (mzM (layM (tellS ls 15).2 []))).rn _ _))
      rw [mz_rn]; rfl
    · exact mz_w0 _ (.pair .i64 .i64) _
    intro i hi
    match i, hi with
    | 0, _ => exact .inr rfl
end

end Go.Proofs.Yteinenklppbjkaa
