/- The example of the chapter, walked. -/
import Derived.Test.YthbmddaemdcamaaRe4
import Derived.Test.YthbmddaemdcamaaAb18
set_option linter.unusedVariables false
set_option linter.unusedSimpArgs false
open Go.RowKit
namespace Go.Proofs.Ythbmddaemdcamaa
set_option maxRecDepth 10000

set_option maxHeartbeats 4000000 in
theorem lays_call {Kp} : CallA Try.prog 16 [] [] (fun r M => r = .bo true ∧ M = []) Kp := by
  refine CallA.post_sub ?_
  refine walk16 (fun _ => []) [] rfl ?_
  refine CallA.view (Vw.ghost (i := 0) (k := 0) (x := .ints .u8 [] 0) rfl rfl ⟨rfl, rfl⟩) ?_
  refine CallA.mono (put_call (row := []) (v := 1) (n := 1) (g := 0) (c := 0) (Kp := fun _ _ => False) (by omega) (by simp) (by simp [packF, packB])) ?_ (fun _ _ h => h.elim)
  rintro r M ⟨g1, c1, rfl, rfl, hc1, hl1⟩
  refine CallA.mono (put_call (row := _) (v := 2) (n := 2) (g := g1) (c := c1) (Kp := fun _ _ => False) (by omega) hl1 hc1) ?_ (fun _ _ h => h.elim)
  rintro r M ⟨g2, c2, rfl, rfl, hc2, hl2⟩
  refine CallA.mono (put_call (row := _) (v := 255) (n := 8) (g := g2) (c := c2) (Kp := fun _ _ => False) (by omega) hl2 hc2) ?_ (fun _ _ h => h.elim)
  rintro r M ⟨g3, c3, rfl, rfl, hc3, hl3⟩
  have hrow : (putF (putF (putF [] 1 1).1 2 2).1 255 8).1 = [true, false, true, true, true, true, true, true, true, true, true] := by decide
  rw [hrow] at hc3 hl3 ⊢
  refine CallA.mono (bytes_call (g := g3) (c := c3) (Kp := fun _ _ => False) hl3 hc3) ?_ (fun _ _ h => h.elim)
  rintro r M ⟨g4, c4, rfl, rfl, hc4⟩
  have hby : bytesF [true, false, true, true, true, true, true, true, true, true, true] = [253, 7] := by decide
  rw [hby] at hc4 ⊢
  refine CallA.lift [.win 3 0 0] (new_call (xs := [253, 7]) (c0 := 2) (c := 2) (Kp := fun _ _ => False) (by simp)) rfl rfl ⟨⟨_, _, _, rfl, slot_one rfl, WinC.same rfl (fun h => h)⟩, trivial⟩ ⟨trivial, trivial⟩ ?_ (fun _ _ h => h.elim)
  rintro r M ⟨g5, c5, rfl, rfl, hc5⟩
  refine ⟨⟨rfl, rfl⟩, ?_⟩
  repeat (refine And.intro (by first | exact rfl | omega) ?_)
  have hxs : ∀ x ∈ ([253, 7] : List Int), 0 ≤ x ∧ x < 256 := by decide
  refine CallA.lift [.own 5, .own 4] (get_call (xs := [253, 7]) (a := 0) (n := 1) (g := g5) (c := c5) (Kp := fun _ _ => False) (by simp) (by simp) hxs) rfl rfl ⟨⟨rfl, rfl⟩, ⟨rfl, rfl⟩, trivial⟩ ⟨rfl, trivial, trivial⟩ ?_ (fun _ _ h => h.elim)
  rintro r M ⟨rfl, rfl⟩
  refine ⟨⟨rfl, rfl, rfl⟩, ?_⟩
  refine CallA.lift [.own 5, .own 4] (get_call (xs := [253, 7]) (a := 1) (n := 2) (g := g5) (c := c5) (Kp := fun _ _ => False) (by simp) (by simp) hxs) rfl rfl ⟨⟨rfl, rfl⟩, ⟨rfl, rfl⟩, trivial⟩ ⟨rfl, trivial, trivial⟩ ?_ (fun _ _ h => h.elim)
  rintro r M ⟨rfl, rfl⟩
  refine ⟨⟨rfl, rfl, rfl⟩, ?_⟩
  repeat (first
    | (refine And.intro (by first | exact rfl | exact Nat.le_of_ble_eq_true rfl | omega | decide) ?_)
    | (refine And.intro (fun h => ?_) (fun h => absurd h (by decide))))
  refine CallA.lift [.own 0, .own 1] (len_call (K := fun r M => r = .int .i64 11 ∧ M = wrA [true, false, true, true, true, true, true, true, true, true, true] g3 c3) (Kp := fun _ _ => False) (by decide) (by decide) ⟨rfl, rfl⟩) rfl rfl ⟨⟨rfl, rfl⟩, ⟨rfl, rfl⟩, trivial⟩ ⟨rfl, trivial, trivial⟩ ?_ (fun _ _ h => h.elim)
  rintro r M ⟨rfl, rfl⟩
  refine ⟨⟨rfl, rfl, rfl⟩, ?_⟩
  repeat (first
    | (refine And.intro (by first | exact rfl | exact Nat.le_of_ble_eq_true rfl | omega | decide) ?_)
    | (refine And.intro (fun h => ?_) (fun h => absurd h (by decide))))
  refine CallA.lift [.own 5, .own 4] (left_call (xs := [253, 7]) (a := 3) (K := fun r M => r = .int .i64 13 ∧ M = rdA [253, 7] 3 g5 c5) (Kp := fun _ _ => False) (by decide) (by decide) ⟨rfl, rfl⟩) rfl rfl ⟨⟨rfl, rfl⟩, ⟨rfl, rfl⟩, trivial⟩ ⟨rfl, trivial, trivial⟩ ?_ (fun _ _ h => h.elim)
  rintro r M ⟨rfl, rfl⟩
  refine ⟨⟨rfl, rfl, rfl⟩, ?_⟩
  repeat (first
    | (refine And.intro (by first | exact rfl | exact Nat.le_of_ble_eq_true rfl | omega | decide) ?_)
    | (refine And.intro (fun h => ?_) (fun h => absurd h (by decide))))
  exact Exists.intro [] (And.intro trivial (And.intro trivial (And.intro rfl ⟨rfl, rfl⟩)))
end Go.Proofs.Ythbmddaemdcamaa
