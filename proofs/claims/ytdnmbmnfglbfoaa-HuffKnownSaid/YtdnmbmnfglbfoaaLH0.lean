/- Layer 6: the example that every statement asks for. -/
import Derived.Test.YtdnmbmnfglbfoaaH7

import Derived.Test.YtdnmbmnfglbfoaaH11

set_option linter.unusedVariables false

set_option linter.unusedSimpArgs false

open Go.RowKit

namespace Go.Proofs.Ytdnmbmnfglbfoaa

set_option maxRecDepth 10000

theorem ex_codes : codesF [2, 1, 3, 3] = ([1, 0, 3, 7], 0) := by decide
theorem ex_lengths : lengthsF [1, 1, 2, 4] 2 = ([2, 2, 2, 2], 0) := by decide
section

variable {M : AH} {K Kp : AV → AH → Prop}

theorem codes_at {i g n c0 co : Nat} {o : Bool} {ls : List Int} (hi : M[i]? = some (.one o g (.ints .u8 ls co))) (hn : n = ls.length) (hl : ls.length ≤ 2000) (hu : ∀ x ∈ ls, 0 ≤ x ∧ x < 256)
    (h : ∀ g' c', (codesF ls).1.length ≤ c' → K (.tup [.sl M.length g' 0 (codesF ls).1.length c', .int .i64 (codesF ls).2]) (M ++ [.one true g' (.ints .u16 (codesF ls).1 c')])) : CallA Try.prog 15 [.sl i g 0 n c0] M K Kp := by
  subst hn
  refine CallA.lift [.win i g 0] (codes_call (ls := ls) (c0 := c0) (c := co) (Kp := fun _ _ => False) hl hu) rfl rfl ⟨⟨_, _, _, rfl, slot_one hi, WinC.same rfl (fun h => h)⟩, trivial⟩ ⟨trivial, trivial⟩ ?_ (fun _ _ h => h.elim)
  rintro r M' ⟨g', c', rfl, rfl, hc'⟩
  exact ⟨⟨rfl, rfl⟩, h g' c' hc'⟩
theorem lengths_at {i g n c0 co : Nat} {o : Bool} {fr : List Int} {limit : Int} (hi : M[i]? = some (.one o g (.ints .i64 fr co))) (hn : n = fr.length) (hl : fr.length ≤ 2000)
    (h : ∀ g' c', (lengthsF fr limit).1.length ≤ c' → K (.tup [.sl M.length g' 0 (lengthsF fr limit).1.length c', .int .i64 (lengthsF fr limit).2]) (M ++ [.one true g' (.ints .u8 (lengthsF fr limit).1 c')])) : CallA Try.prog 11 [.sl i g 0 n c0, .int .i64 limit] M K Kp := by
  subst hn
  refine CallA.lift [.win i g 0] (lengths_call (fr := fr) (c0 := c0) (c := co) (limit := limit) (Kp := fun _ _ => False) hl) rfl rfl ⟨⟨_, _, _, rfl, slot_one hi, WinC.same rfl (fun h => h)⟩, trivial⟩ ⟨trivial, trivial⟩ ?_ (fun _ _ h => h.elim)
  rintro r M' ⟨g', c', rfl, rfl, hc'⟩
  exact ⟨⟨rfl, rfl⟩, h g' c' hc'⟩
theorem hcodes_call (hK : K (.bo true) []) : CallA Try.prog 13 [] [] K Kp := by
  refine CallA.post_pick ?_
  refine CallA.post_asB ?_
  refine step13 (fun _ => []) [] rfl ?_
  repeat ((conv => whnf); first | with_reducible refine O_step ?_ | with_reducible refine S_step ?_ | with_reducible refine D_step ?_ | with_reducible refine RO.exit ?_ | with_reducible refine RO.ret ?_ | ((with_reducible refine And.intro ?sc ?_); case sc => exact side) | ((with_reducible refine br_f ?sc ?_); case sc => exact sideB) | ((with_reducible refine br_t ?sc ?_); case sc => exact sideB))
  refine codes_at (i := 0) (ls := [2, 1, 3, 3]) rfl rfl (by decide) (by decide) fun g1 c1 hc1 => ?_
  rw [ex_codes] at hc1
  rw [ex_codes]
  repeat ((conv => whnf); first | with_reducible refine O_step ?_ | with_reducible refine S_step ?_ | with_reducible refine D_step ?_ | with_reducible refine RO.exit ?_ | with_reducible refine RO.ret ?_ | ((with_reducible refine And.intro ?sc ?_); case sc => exact side) | ((with_reducible refine br_f ?sc ?_); case sc => exact sideB) | ((with_reducible refine br_t ?sc ?_); case sc => exact sideB))
  refine lengths_at (i := 2) (fr := [1, 1, 2, 4]) (limit := 2) rfl rfl (by decide) fun g2 c2 hc2 => ?_
  rw [ex_lengths] at hc2
  rw [ex_lengths]
  repeat ((conv => whnf); first | with_reducible refine O_step ?_ | with_reducible refine S_step ?_ | with_reducible refine D_step ?_ | with_reducible refine RO.exit ?_ | with_reducible refine RO.ret ?_ | ((with_reducible refine And.intro ?sc ?_); case sc => exact side) | ((with_reducible refine br_f ?sc ?_); case sc => exact sideB) | ((with_reducible refine br_t ?sc ?_); case sc => exact sideB))
  exact ⟨true, rfl, [], .bo true, [], ⟨trivial, rfl, trivial, rfl, fun i hi => absurd hi (Nat.not_lt_zero i)⟩, hK⟩
theorem hcodes_at (hK : K (.bo true) M) : CallA Try.prog 13 [] M K Kp :=
  CallA.at0 (hcodes_call ⟨rfl, rfl⟩) (fun _ => rfl) rfl (fun _ => rfl) hK
end

end Go.Proofs.Ytdnmbmnfglbfoaa
