/- Layer 6: the example that every statement asks for. -/
import Derived.Test.YteinenklppbjkaaH7

import Derived.Test.YteinenklppbjkaaH11

set_option linter.unusedVariables false

set_option linter.unusedSimpArgs false

open Go.RowKit

namespace Go.Proofs.Yteinenklppbjkaa

set_option maxRecDepth 10000

theorem ex_codes : codesF [2, 1, 3, 3] = ([1, 0, 3, 7], 0) := by decide
theorem ex_lengths : lengthsF [1, 1, 2, 4] 2 = ([2, 2, 2, 2], 0) := by decide
section

variable {M : AH} {K Kp : AV → AH → Prop}

theorem codes_at {i g n c0 co : Nat} {o : Bool} {ls : List Int} (hi : M[i]? = some (.one o g (.ints .u8 ls co))) (hn : n = ls.length) (hl : ls.length ≤ 2000) (hu : ∀ x ∈ ls, 0 ≤ x ∧ x < 256)
    (h : ∀ g' c', (codesF ls).1.length ≤ c' → K (.tup [.sl M.length g' 0 (codesF ls).1.length c', .int .i64 (codesF ls).2]) (M ++ [.one true g' (.ints .u16 (codesF ls).1 c')])) : CallA Try.prog 25 [.sl i g 0 n c0] M K Kp := by
  subst hn
  refine CallA.lift [.win i g 0] (codes_call (ls := ls) (c0 := c0) (c := co) (Kp := fun _ _ => False) hl hu) rfl rfl ⟨⟨_, _, _, rfl, slot_one hi, WinC.same rfl (fun h => h)⟩, trivial⟩ ⟨trivial, trivial⟩ ?_ (fun _ _ h => h.elim)
  rintro r M' ⟨g', c', rfl, rfl, hc'⟩
  exact ⟨⟨rfl, rfl⟩, h g' c' hc'⟩
theorem lengths_at {i g n c0 co : Nat} {o : Bool} {fr : List Int} {limit : Int} (hi : M[i]? = some (.one o g (.ints .i64 fr co))) (hn : n = fr.length) (hl : fr.length ≤ 2000)
    (h : ∀ g' c', (lengthsF fr limit).1.length ≤ c' → K (.tup [.sl M.length g' 0 (lengthsF fr limit).1.length c', .int .i64 (lengthsF fr limit).2]) (M ++ [.one true g' (.ints .u8 (lengthsF fr limit).1 c')])) : CallA Try.prog 42 [.sl i g 0 n c0, .int .i64 limit] M K Kp := by
  subst hn
  refine CallA.lift [.win i g 0] (lengths_call (fr := fr) (c0 := c0) (c := co) (limit := limit) (Kp := fun _ _ => False) hl) rfl rfl ⟨⟨_, _, _, rfl, slot_one hi, WinC.same rfl (fun h => h)⟩, trivial⟩ ⟨trivial, trivial⟩ ?_ (fun _ _ h => h.elim)
  rintro r M' ⟨g', c', rfl, rfl, hc'⟩
  exact ⟨⟨rfl, rfl⟩, h g' c' hc'⟩
end

end Go.Proofs.Yteinenklppbjkaa
