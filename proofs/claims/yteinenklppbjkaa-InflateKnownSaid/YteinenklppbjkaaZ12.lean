/- Layer 8: Inflate where other things stand; reads. -/
import Derived.Test.YteinenklppbjkaaZ11

set_option linter.unusedVariables false

set_option linter.unusedSimpArgs false

open Go.RowKit

namespace Go.Proofs.Yteinenklppbjkaa

set_option maxRecDepth 10000

section

variable {M : AH} {K Kp : AV → AH → Prop}

theorem inflate_win {i g off n c0 co : Nat} {o : Bool} {xs ys : List Int} {limit : Int} (hi : M[i]? = some (.one o g (.ints .u8 ys co))) (hn : n = xs.length) (hy : xs = (ys.drop off).take xs.length) (hc : off + xs.length ≤ co)
    (hxl : xs.length ≤ 1000000) (hxb : ∀ x ∈ xs, 0 ≤ x ∧ x < 256) (hlim : limit < 9223372036854775808)
    (h1 : limit < 0 ∨ 524288 < limit → K (.tup [.ns, .int .i64 0, .int .i64 1]) M)
    (h2 : ∀ g c s, 0 ≤ limit → limit ≤ 524288 → infR xs limit.toNat = .ok ((), s) → ZOk xs limit.toNat c s → (∀ x ∈ s.out, 0 ≤ x ∧ x < 256) → K (.tup [.sl M.length g 0 s.out.length c, .int .i64 (((s.a + 7) / 8 : Nat) : Int), .int .i64 0]) (M ++ [.one true g (.ints .u8 s.out c)]))
    (h3 : ∀ e, 0 ≤ limit → limit ≤ 524288 → infR xs limit.toNat = .error e → K (.tup [.ns, .int .i64 0, .int .i64 e]) M) :
    CallA Try.prog 7 [.sl i g off n c0, .int .i64 limit] M K Kp := by
  subst hn
  refine CallA.lift [.win i g off] (inflate_call (xs := xs) (n0 := c0) (co := xs.length) (limit := limit) (K := fun r N => (r.rn [.win i g off] M.length = r ∧ N = [.one false 0 (.ints .u8 xs xs.length)] ∧ K r M) ∨ ∃ g c s, r = .tup [.sl 1 g 0 s.out.length c, .int .i64 (((s.a + 7) / 8 : Nat) : Int), .int .i64 0] ∧ N = [.one false 0 (.ints .u8 xs xs.length), .one true g (.ints .u8 s.out c)] ∧ K (.tup [.sl M.length g 0 s.out.length c, .int .i64 (((s.a + 7) / 8 : Nat) : Int), .int .i64 0]) (M ++ [.one true g (.ints .u8 s.out c)])) (Kp := fun _ _ => False) hxl hxb hlim
    (fun h => .inl ⟨rfl, rfl, h1 h⟩) (fun g c s a1 a2 a3 a4 a5 => .inr ⟨g, c, s, rfl, rfl, h2 g c s a1 a2 (by rw [infR_def]; exact a3) a4 a5⟩) (fun e a1 a2 a3 => .inl ⟨rfl, rfl, h3 e a1 a2 (by rw [infR_def]; exact a3)⟩))
    (by simp [AV.rnl, AV.rn, rnI, rnG, rnF, TE.i]) rfl ⟨⟨_, _, _, rfl, slot_one hi, WinC.ints hc hy⟩, trivial⟩ ⟨trivial, trivial⟩ ?_ (fun _ _ h => h.elim)
  rintro r M' (⟨hr, rfl, hk⟩ | ⟨g, c, s, rfl, rfl, hk⟩)
  · refine ⟨⟨rfl, rfl⟩, ?_⟩
    rw [hr]
    rw [← List.append_nil M] at hk
    exact hk
  · exact ⟨⟨rfl, rfl⟩, hk⟩
theorem inflate_at {i g n c0 co : Nat} {o : Bool} {xs : List Int} {limit : Int} (hi : M[i]? = some (.one o g (.ints .u8 xs co))) (hn : n = xs.length) (hc : xs.length ≤ co)
    (hxl : xs.length ≤ 1000000) (hxb : ∀ x ∈ xs, 0 ≤ x ∧ x < 256) (hlim : limit < 9223372036854775808)
    (h1 : limit < 0 ∨ 524288 < limit → K (.tup [.ns, .int .i64 0, .int .i64 1]) M)
    (h2 : ∀ g c s, 0 ≤ limit → limit ≤ 524288 → infR xs limit.toNat = .ok ((), s) → ZOk xs limit.toNat c s → (∀ x ∈ s.out, 0 ≤ x ∧ x < 256) → K (.tup [.sl M.length g 0 s.out.length c, .int .i64 (((s.a + 7) / 8 : Nat) : Int), .int .i64 0]) (M ++ [.one true g (.ints .u8 s.out c)]))
    (h3 : ∀ e, 0 ≤ limit → limit ≤ 524288 → infR xs limit.toNat = .error e → K (.tup [.ns, .int .i64 0, .int .i64 e]) M) :
    CallA Try.prog 7 [.sl i g 0 n c0, .int .i64 limit] M K Kp :=
  inflate_win hi hn (by rw [List.drop_zero, List.take_length]) (by omega) hxl hxb hlim h1 h2 h3
/-- The same where nothing is known of what is answered. -/
theorem reads_call (h : K (.bo true) []) : CallA Try.prog 8 [] [] K Kp := by
  refine CallA.post_sub ?_
  refine step8 (fun _ => []) [] rfl ?_
  repeat ((conv => whnf); first | with_reducible refine O_step ?_ | with_reducible refine S_step ?_ | with_reducible refine D_step ?_ | with_reducible refine RO.exit ?_ | with_reducible refine RO.ret ?_ | ((with_reducible refine And.intro ?sc ?_); case sc => exact side) | ((with_reducible refine br_f ?sc ?_); case sc => exact sideB) | ((with_reducible refine br_t ?sc ?_); case sc => exact sideB))
  refine inflate_at (i := 0) (xs := [75, 76, 74, 6, 0, 9]) (limit := 10) rfl rfl (by decide) (by decide) (by decide) (by decide) (fun h => absurd h (by decide)) (fun g c s _ _ e _ _ => ?_) (fun e _ _ h => ?_)
  · have e2 : infR [75, 76, 74, 6, 0, 9] 10 = .ok ((), s) := e
    rw [reads_ex] at e2
    obtain rfl : ({ a := 34, out := [97, 98, 99] } : DS) = s := by injection e2 with e2; injection e2
    repeat ((conv => whnf); first | with_reducible refine O_step ?_ | with_reducible refine S_step ?_ | with_reducible refine D_step ?_ | with_reducible refine RO.exit ?_ | with_reducible refine RO.ret ?_ | ((with_reducible refine And.intro ?sc ?_); case sc => exact side) | ((with_reducible refine br_f ?sc ?_); case sc => exact sideB) | ((with_reducible refine br_t ?sc ?_); case sc => exact sideB))
    intro ys hys
    obtain rfl : ys = [97, 98, 99] := by rw [hys]; rfl
    repeat ((conv => whnf); first | with_reducible refine O_step ?_ | with_reducible refine S_step ?_ | with_reducible refine D_step ?_ | with_reducible refine RO.exit ?_ | with_reducible refine RO.ret ?_ | ((with_reducible refine And.intro ?sc ?_); case sc => exact side) | ((with_reducible refine br_f ?sc ?_); case sc => exact sideB) | ((with_reducible refine br_t ?sc ?_); case sc => exact sideB))
    refine br_t (str_const _ rfl) ?_
    repeat ((conv => whnf); first | with_reducible refine O_step ?_ | with_reducible refine S_step ?_ | with_reducible refine D_step ?_ | with_reducible refine RO.exit ?_ | with_reducible refine RO.ret ?_ | ((with_reducible refine And.intro ?sc ?_); case sc => exact side) | ((with_reducible refine br_f ?sc ?_); case sc => exact sideB) | ((with_reducible refine br_t ?sc ?_); case sc => exact sideB))
    exact ⟨[], subA_nil _, trivial, rfl, h⟩
  · have e2 : infR [75, 76, 74, 6, 0, 9] 10 = .error e := h
    rw [reads_ex] at e2
    cases e2
theorem reads_at (h : K (.bo true) M) : CallA Try.prog 8 [] M K Kp := by
  refine CallA.lift [] (reads_call (K := fun r N => r = .bo true ∧ N = []) (Kp := fun _ _ => False) ⟨rfl, rfl⟩) rfl rfl trivial trivial ?_ (fun _ _ h => h.elim)
  rintro r M' ⟨rfl, rfl⟩
  rw [← List.append_nil M] at h
  exact ⟨rfl, h⟩
end

end Go.Proofs.Yteinenklppbjkaa
