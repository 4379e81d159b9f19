/- Layer 6: HuffReads. -/
import Derived.Test.YteinenklppbjkaaH17

import Derived.Test.YteinenklppbjkaaLH1

import Derived.Test.YteinenklppbjkaaGb

set_option linter.unusedVariables false

set_option linter.unusedSimpArgs false

open Go.RowKit

namespace Go.Proofs.Yteinenklppbjkaa

set_option maxRecDepth 10000

section

variable {M : AH} {K Kp : AV → AH → Prop}

theorem tread_at {ir ib im it g c a : Nat} {xs : List Int} {es : List ((Int × Int) × Int)} (h1 : M[ir]? = some (ro ib g c xs a)) (h2 : M[ib]? = some (rb g c xs)) (h3 : M[im]? = some (.one true 0 (.map (.pair .i64 .i64) (mzM es)))) (h4 : M[it]? = some (.one true 0 (.cells [.mp im 0])))
    (hap : (apartT [.own ir, .own ib, .own im, .own it] && AV.w0l [.own ir, .own ib, .own im, .own it] [.ptr 3 0 0, .ptr 0 0 0]) = true)
    (hb : xs.length ≤ 1000000) (ha : a ≤ 8 * xs.length) (hxs : ∀ x ∈ xs, 0 ≤ x ∧ x < 256) (hes : ∀ k z, findZ k es = some z → k.2 ≤ 15)
    (h : K (.tup [.int .i64 (treadF es (unpack xs) a).1, .int .i64 (treadF es (unpack xs) a).2.2]) ((((M.set ir (ro ib g c xs (treadF es (unpack xs) a).2.1)).set ib (rb g c xs)).set im (.one true 0 (.map (.pair .i64 .i64) (mzM es)))).set it (.one true 0 (.cells [.mp im 0])))) :
    CallA Try.prog 63 [.ptr it 0 0, .ptr ir 0 0] M K Kp := by
  refine CallA.lift [.own ir, .own ib, .own im, .own it] (tread_call (xs := xs) (g := g) (c := c) (es := es) (a := a) (K := fun r M => r = .tup [.int .i64 (treadF es (unpack xs) a).1, .int .i64 (treadF es (unpack xs) a).2.2] ∧ M = trdH g c xs (treadF es (unpack xs) a).2.1 es) (Kp := fun _ _ => False) hb ha hxs hes ⟨rfl, rfl⟩) rfl hap
    ⟨⟨h1, rfl⟩, ⟨h2, rfl⟩, ⟨by rw [h3]; show some _ = some (AO.one true 0 ((Cont.map (.pair .i64 .i64) (mzM es)).rn _ _)); rw [mz_rn], rfl⟩, ⟨h4, rfl⟩, trivial⟩ ⟨rfl, trivial, mz_w0 _ (.pair .i64 .i64) es, rfl, trivial⟩ ?_ (fun _ _ h => h.elim)
  rintro r M' ⟨rfl, rfl⟩
  refine ⟨⟨rfl, rfl, rfl, rfl, rfl⟩, ?_⟩
  rw [← mz_rn [.own ir, .own ib, .own im, .own it] M.length (.pair .i64 .i64) es, ← List.append_nil ((((M.set ir _).set ib _).set im _).set it _)] at h
  exact h
end

/-- Read's place stays within the row. -/
theorem refG_le (ts : List Tell) (row : List Bool) (a : Nat) : ∀ (f b : Nat), b ≤ row.length → (refG ts row a f b).2.1 ≤ row.length
  | 0, b, h => h
  | f + 1, b, h => by
    simp only [refG]
    split
    · exact h
    · split
      · split
        · exact h
        · exact refG_le ts row a f (b + 1) (by omega)
      · exact h
theorem refF_le {ts : List Tell} {row : List Bool} {a : Nat} (h : a ≤ row.length) : (refF ts row a).2.1 ≤ row.length := refG_le ts row a _ a h
end Go.Proofs.Yteinenklppbjkaa
