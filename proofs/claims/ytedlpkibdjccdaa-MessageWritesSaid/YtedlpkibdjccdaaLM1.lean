/- Layer 23: MessageWrites. -/
import Derived.Test.YtedlpkibdjccdaaN4

import Derived.Test.YtedlpkibdjccdaaN5

set_option linter.unusedVariables false

set_option linter.unusedSimpArgs false

open Go.RowKit

namespace Go.Proofs.Ytedlpkibdjccdaa

set_option maxRecDepth 10000

section

variable {K Kp : AV → AH → Prop} {m : Msg} {cS cB : Nat}

theorem own_at {M : AH} {i gi j gj : Nat} {o1 o2 : Bool} (hi : slot M i gi = some (o1, .ints .u32 m.sums cS)) (hj : slot M j gj = some (o2, .ints .u8 m.body cB)) (ls : m.sums.length ≤ 1000000) (lb : m.body.length ≤ 1000000)
    (h : ∀ g1 c1 g2 c2, m.sums.length ≤ c1 → m.body.length ≤ c2 → K (mV m M.length g1 c1 (M.length + 1) g2 c2) (M ++ [.one true g1 (.ints .u32 m.sums c1), .one true g2 (.ints .u8 m.body c2)])) :
    CallA Try.prog 10 [mV m i gi cS j gj cB] M K Kp := by
  refine CallA.lift [.win i gi 0, .win j gj 0] (own_call (Kp := fun _ _ => False) (K := fun r M' => ∃ g1 c1 g2 c2, m.sums.length ≤ c1 ∧ m.body.length ≤ c2 ∧ r = mV m 2 g1 c1 3 g2 c2 ∧ M' = [.one false 0 (.ints .u32 m.sums cS), .one false 0 (.ints .u8 m.body cB), .one true g1 (.ints .u32 m.sums c1), .one true g2 (.ints .u8 m.body c2)]) ls lb
    (fun g1 c1 g2 c2 k1 k2 => ⟨g1, c1, g2, c2, k1, k2, rfl, rfl⟩)) rfl rfl ⟨⟨_, _, _, rfl, hi, winI0⟩, ⟨_, _, _, rfl, hj, winI0⟩, trivial⟩ ⟨trivial, trivial, trivial⟩ ?_ (fun _ _ h => h.elim)
  rintro r M' ⟨g1, c1, g2, c2, k1, k2, rfl, rfl⟩
  exact ⟨⟨rfl, rfl, rfl⟩, h g1 c1 g2 c2 k1 k2⟩
theorem mWrites_call (o : okM m) (kS : m.sums.length ≤ cS) (kB : m.body.length ≤ cB) :
    CallA Try.prog 3 [mV m 0 0 cS 1 0 cB] [.one false 0 (.ints .u32 m.sums cS), .one false 0 (.ints .u8 m.body cB)] (fun r _ => r = .bo true) (fun _ _ => False) := by
  refine step3 (fun _ => [0, 1, 2, 3, 4, 5]) [] rfl ?_
  repeat ((conv => whnf); first | with_reducible refine O_step ?_ | with_reducible refine S_step ?_ | with_reducible refine D_step ?_ | with_reducible refine RO.exit ?_ | with_reducible refine RO.ret ?_ | ((with_reducible refine And.intro ?sc ?_); case sc => exact side) | ((with_reducible refine br_f ?sc ?_); case sc => exact sideB) | ((with_reducible refine br_t ?sc ?_); case sc => exact sideB))
  refine And.intro (fun hc => ?_) (fun hc => ?_)
  · repeat ((conv => whnf); first | with_reducible refine O_step ?_ | with_reducible refine S_step ?_ | with_reducible refine D_step ?_ | with_reducible refine RO.exit ?_ | with_reducible refine RO.ret ?_ | ((with_reducible refine And.intro ?sc ?_); case sc => exact side) | ((with_reducible refine br_f ?sc ?_); case sc => exact sideB) | ((with_reducible refine br_t ?sc ?_); case sc => exact sideB))
    rfl
  have hl1 : m.body.length ≤ 2000 := by have := of_decide_eq_false hc; omega
  repeat ((conv => whnf); first | with_reducible refine O_step ?_ | with_reducible refine S_step ?_ | with_reducible refine D_step ?_ | with_reducible refine RO.exit ?_ | with_reducible refine RO.ret ?_ | ((with_reducible refine And.intro ?sc ?_); case sc => exact side) | ((with_reducible refine br_f ?sc ?_); case sc => exact sideB) | ((with_reducible refine br_t ?sc ?_); case sc => exact sideB))
  refine And.intro (fun hc => ?_) (fun hc => ?_)
  · repeat ((conv => whnf); first | with_reducible refine O_step ?_ | with_reducible refine S_step ?_ | with_reducible refine D_step ?_ | with_reducible refine RO.exit ?_ | with_reducible refine RO.ret ?_ | ((with_reducible refine And.intro ?sc ?_); case sc => exact side) | ((with_reducible refine br_f ?sc ?_); case sc => exact sideB) | ((with_reducible refine br_t ?sc ?_); case sc => exact sideB))
    rfl
  have hl2 : m.sums.length ≤ 600 := by have := of_decide_eq_false hc; omega
  repeat ((conv => whnf); first | with_reducible refine O_step ?_ | with_reducible refine S_step ?_ | with_reducible refine D_step ?_ | with_reducible refine RO.exit ?_ | with_reducible refine RO.ret ?_ | ((with_reducible refine And.intro ?sc ?_); case sc => exact side) | ((with_reducible refine br_f ?sc ?_); case sc => exact sideB) | ((with_reducible refine br_t ?sc ?_); case sc => exact sideB))
  refine own_at (i := 0) (j := 1) (gi := 0) (gj := 0) rfl rfl (by omega) (by omega) (fun g1 c1 g2 c2 k1 k2 => ?_)
  repeat ((conv => whnf); first | with_reducible refine O_step ?_ | with_reducible refine S_step ?_ | with_reducible refine D_step ?_ | with_reducible refine RO.exit ?_ | with_reducible refine RO.ret ?_ | ((with_reducible refine And.intro ?sc ?_); case sc => exact side) | ((with_reducible refine br_f ?sc ?_); case sc => exact sideB) | ((with_reducible refine br_t ?sc ?_); case sc => exact sideB))
  refine mwrite_at (i := 3) (gi := g1) (cS := c1) (j := 4) (gj := g2) (cB := c2) (slot_one rfl) (slot_one rfl) o (by omega) (by omega) k1 k2 (fun ga ca ka => ?_)
  repeat ((conv => whnf); first | with_reducible refine O_step ?_ | with_reducible refine S_step ?_ | with_reducible refine D_step ?_ | with_reducible refine RO.exit ?_ | with_reducible refine RO.ret ?_ | ((with_reducible refine And.intro ?sc ?_); case sc => exact side) | ((with_reducible refine br_f ?sc ?_); case sc => exact sideB) | ((with_reducible refine br_t ?sc ?_); case sc => exact sideB))
  refine wrR_at (i := 0) (gi := 0) (j := 1) (gj := 0) rfl rfl o (by omega) (by omega) (fun gb cb kb => ?_)
  repeat ((conv => whnf); first | with_reducible refine O_step ?_ | with_reducible refine S_step ?_ | with_reducible refine D_step ?_ | with_reducible refine RO.exit ?_ | with_reducible refine RO.ret ?_ | ((with_reducible refine And.intro ?sc ?_); case sc => exact side) | ((with_reducible refine br_f ?sc ?_); case sc => exact sideB) | ((with_reducible refine br_t ?sc ?_); case sc => exact sideB))
  intro zs hzs
  obtain rfl : zs = wrB m := by rw [hzs]; exact List.take_length
  repeat ((conv => whnf); first | with_reducible refine O_step ?_ | with_reducible refine S_step ?_ | with_reducible refine D_step ?_ | with_reducible refine RO.exit ?_ | with_reducible refine RO.ret ?_ | ((with_reducible refine And.intro ?sc ?_); case sc => exact side) | ((with_reducible refine br_f ?sc ?_); case sc => exact sideB) | ((with_reducible refine br_t ?sc ?_); case sc => exact sideB))
  intro zs hzs
  obtain rfl : zs = wrB m := by rw [hzs]; exact List.take_length
  repeat ((conv => whnf); first | with_reducible refine O_step ?_ | with_reducible refine S_step ?_ | with_reducible refine D_step ?_ | with_reducible refine RO.exit ?_ | with_reducible refine RO.ret ?_ | ((with_reducible refine And.intro ?sc ?_); case sc => exact side) | ((with_reducible refine br_f ?sc ?_); case sc => exact sideB) | ((with_reducible refine br_t ?sc ?_); case sc => exact sideB))
  refine sameR_at (a := m) (b := m) (i0 := 3) (g0 := g1) (c0 := c1) (i1 := 4) (g1 := g2) (c1 := c2) (i2 := 0) (g2 := 0) (i3 := 1) (g3 := 0) (slot_one rfl) (slot_one rfl) rfl rfl o o ⟨by omega, by omega⟩ ⟨by omega, by omega⟩ ?_
  rw [decide_eq_true (show m = m from rfl)]
  repeat ((conv => whnf); first | with_reducible refine O_step ?_ | with_reducible refine S_step ?_ | with_reducible refine D_step ?_ | with_reducible refine RO.exit ?_ | with_reducible refine RO.ret ?_ | ((with_reducible refine And.intro ?sc ?_); case sc => exact side) | ((with_reducible refine br_f ?sc ?_); case sc => exact sideB) | ((with_reducible refine br_t ?sc ?_); case sc => exact sideB))
  refine writes_at ?_
  repeat ((conv => whnf); first | with_reducible refine O_step ?_ | with_reducible refine S_step ?_ | with_reducible refine D_step ?_ | with_reducible refine RO.exit ?_ | with_reducible refine RO.ret ?_ | ((with_reducible refine And.intro ?sc ?_); case sc => exact side) | ((with_reducible refine br_f ?sc ?_); case sc => exact sideB) | ((with_reducible refine br_t ?sc ?_); case sc => exact sideB))
  rfl
end

theorem messageWrites_law (ty : Int) (k_ty : IntKind.u8.min ≤ ty ∧ ty ≤ IntKind.u8.max) (life : Int) (k_life : IntKind.u32.min ≤ life ∧ life ≤ IntKind.u32.max) (frame : Int) (k_frame : IntKind.u32.min ≤ frame ∧ frame ≤ IntKind.u32.max) (base : Int) (k_base : IntKind.u32.min ≤ base ∧ base ≤ IntKind.u32.max) (has : Bool) (full : Bool) (w : Int) (k_w : IntKind.u16.min ≤ w ∧ w ≤ IntKind.u16.max) (h : Int) (k_h : IntKind.u16.min ≤ h ∧ h ≤ IntKind.u16.max) (sums : List Int) (c_sums : Nat) (k_sums : sums.length ≤ c_sums ∧ c_sums ≤ 9223372036854775807) (l_sums : ∀ x ∈ sums, IntKind.u32.min ≤ x ∧ x ≤ IntKind.u32.max) (seq : Int) (k_seq : IntKind.u32.min ≤ seq ∧ seq ≤ IntKind.u32.max) (kind : Int) (k_kind : IntKind.u8.min ≤ kind ∧ kind ≤ IntKind.u8.max) (ex : Int) (k_ex : IntKind.u16.min ≤ ex ∧ ex ≤ IntKind.u16.max) (ey : Int) (k_ey : IntKind.u16.min ≤ ey ∧ ey ≤ IntKind.u16.max) (code : Int) (k_code : IntKind.u32.min ≤ code ∧ code ≤ IntKind.u32.max) (body : List Int) (c_body : Nat) (k_body : body.length ≤ c_body ∧ c_body ≤ 9223372036854775807) (l_body : ∀ x ∈ body, IntKind.u8.min ≤ x ∧ x ≤ IntKind.u8.max) :
    CallA Try.prog 3 [.agg [.int .u8 ty, .int .u32 life, .int .u32 frame, .int .u32 base, .bo has, .bo full, .int .u16 w, .int .u16 h, .sl 0 0 0 sums.length c_sums, .int .u32 seq, .int .u8 kind, .int .u16 ex, .int .u16 ey, .int .u32 code, .sl 1 0 0 body.length c_body]] [.one false 0 (.ints .u32 sums c_sums), .one false 0 (.ints .u8 body c_body)] (fun r _ => r = .bo true) (fun _ _ => False) :=
  mWrites_call (m := ⟨ty, life, frame, base, has, full, w, h, sums, seq, kind, ex, ey, code, body⟩) ⟨⟨k_ty.1, Int.lt_of_le_of_lt (show ty ≤ 255 from k_ty.2) (by decide)⟩, ⟨k_life.1, Int.lt_of_le_of_lt (show life ≤ 4294967295 from k_life.2) (by decide)⟩, ⟨k_frame.1, Int.lt_of_le_of_lt (show frame ≤ 4294967295 from k_frame.2) (by decide)⟩, ⟨k_base.1, Int.lt_of_le_of_lt (show base ≤ 4294967295 from k_base.2) (by decide)⟩, ⟨k_w.1, Int.lt_of_le_of_lt (show w ≤ 65535 from k_w.2) (by decide)⟩, ⟨k_h.1, Int.lt_of_le_of_lt (show h ≤ 65535 from k_h.2) (by decide)⟩, (fun x hx => ⟨(l_sums x hx).1, Int.lt_of_le_of_lt (show x ≤ 4294967295 from (l_sums x hx).2) (by decide)⟩), ⟨k_seq.1, Int.lt_of_le_of_lt (show seq ≤ 4294967295 from k_seq.2) (by decide)⟩, ⟨k_kind.1, Int.lt_of_le_of_lt (show kind ≤ 255 from k_kind.2) (by decide)⟩, ⟨k_ex.1, Int.lt_of_le_of_lt (show ex ≤ 65535 from k_ex.2) (by decide)⟩, ⟨k_ey.1, Int.lt_of_le_of_lt (show ey ≤ 65535 from k_ey.2) (by decide)⟩, ⟨k_code.1, Int.lt_of_le_of_lt (show code ≤ 4294967295 from k_code.2) (by decide)⟩, (fun x hx => ⟨(l_body x hx).1, Int.lt_of_le_of_lt (show x ≤ 255 from (l_body x hx).2) (by decide)⟩)⟩ k_sums.1 k_body.1
end Go.Proofs.Ytedlpkibdjccdaa
