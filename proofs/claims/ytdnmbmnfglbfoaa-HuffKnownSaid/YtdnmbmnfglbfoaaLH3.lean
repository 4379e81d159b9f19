/- Layer 6: HuffReads. -/
import Derived.Test.YtdnmbmnfglbfoaaH17

import Derived.Test.YtdnmbmnfglbfoaaLH1

import Derived.Test.YtdnmbmnfglbfoaaGb

set_option linter.unusedVariables false

set_option linter.unusedSimpArgs false

open Go.RowKit

namespace Go.Proofs.Ytdnmbmnfglbfoaa

set_option maxRecDepth 10000

section

variable {M : AH} {K Kp : AV → AH → Prop}

theorem all_at {i g n c0 co : Nat} {o : Bool} {ls : List Int} (hi : M[i]? = some (.one o g (.ints .u8 ls co))) (hn : n = ls.length) (hl : ls.length ≤ 2000) (hu : ∀ x ∈ ls, 0 ≤ x ∧ x < 256)
    (h : ∀ g' c' cv, (allT ls).length ≤ c' → K (.tup [.sl (M.length + 1) g' 0 (allT ls).length c', .int .i64 (eachE ls)]) (M ++ [.fam true (allT ls).length (bF (allT ls) cv), tO M.length cv g' c' (allT ls)])) : CallA Try.prog 20 [.sl i g 0 n c0] M K Kp := by
  subst hn
  refine CallA.lift [.win i g 0] (all_call (ls := ls) (c0 := c0) (c := co) (Kp := fun _ _ => False) hl hu) rfl rfl ⟨⟨_, _, _, rfl, slot_one hi, WinC.same rfl (fun h => h)⟩, trivial⟩ ⟨trivial, trivial⟩ ?_ (fun _ _ h => h.elim)
  rintro r M' ⟨g', c', cv, rfl, rfl, hc'⟩
  exact ⟨⟨rfl, rfl⟩, h g' c' cv hc'⟩
theorem rofs_at {i g n c0 co : Nat} {o : Bool} {xs : List Int} (hi : M[i]? = some (.one o g (.ints .u8 xs co))) (hn : n = xs.length) (hl : xs.length ≤ 100000000) (hu : ∀ x ∈ xs, 0 ≤ x ∧ x < 256)
    (h : ∀ g' c', (unpack xs).length ≤ c' → K (.sl M.length g' 0 (unpack xs).length c') (M ++ [.one true g' (.bools (unpack xs) c')])) : CallA Try.prog 21 [.sl i g 0 n c0] M K Kp := by
  subst hn
  refine CallA.lift [.win i g 0] (rof_call (xs := xs) (c0 := c0) (c := co) (Kp := fun _ _ => False) hl hu) rfl rfl ⟨⟨_, _, _, rfl, slot_one hi, WinC.same rfl (fun h => h)⟩, trivial⟩ ⟨trivial, trivial⟩ ?_ (fun _ _ h => h.elim)
  rintro r M' ⟨g', c', rfl, rfl, hc'⟩
  exact ⟨⟨rfl, rfl⟩, h g' c' hc'⟩
theorem tread_at {ir ib im it g c a : Nat} {xs : List Int} {es : List ((Int × Int) × Int)} (h1 : M[ir]? = some (ro ib g c xs a)) (h2 : M[ib]? = some (rb g c xs)) (h3 : M[im]? = some (.one true 0 (.map (.pair .i64 .i64) (mzM es)))) (h4 : M[it]? = some (.one true 0 (.cells [.mp im 0])))
    (hap : (apartT [.own ir, .own ib, .own im, .own it] && AV.w0l [.own ir, .own ib, .own im, .own it] [.ptr 3 0 0, .ptr 0 0 0]) = true)
    (hb : xs.length ≤ 1000000) (ha : a ≤ 8 * xs.length) (hxs : ∀ x ∈ xs, 0 ≤ x ∧ x < 256) (hes : ∀ k z, findZ k es = some z → k.2 ≤ 15)
    (h : K (.tup [.int .i64 (treadF es (unpack xs) a).1, .int .i64 (treadF es (unpack xs) a).2.2]) ((((M.set ir (ro ib g c xs (treadF es (unpack xs) a).2.1)).set ib (rb g c xs)).set im (.one true 0 (.map (.pair .i64 .i64) (mzM es)))).set it (.one true 0 (.cells [.mp im 0])))) :
    CallA Try.prog 18 [.ptr it 0 0, .ptr ir 0 0] M K Kp := by
  refine CallA.lift [.own ir, .own ib, .own im, .own it] (tread_call (xs := xs) (g := g) (c := c) (es := es) (a := a) (K := fun r M => r = .tup [.int .i64 (treadF es (unpack xs) a).1, .int .i64 (treadF es (unpack xs) a).2.2] ∧ M = trdH g c xs (treadF es (unpack xs) a).2.1 es) (Kp := fun _ _ => False) hb ha hxs hes ⟨rfl, rfl⟩) rfl hap
    ⟨⟨h1, rfl⟩, ⟨h2, rfl⟩, ⟨by rw [h3]; show some _ = some (AO.one true 0 ((Cont.map (.pair .i64 .i64) (mzM es)).rn _ _)); rw [mz_rn], rfl⟩, ⟨h4, rfl⟩, trivial⟩ ⟨rfl, trivial, mz_w0 _ (.pair .i64 .i64) es, rfl, trivial⟩ ?_ (fun _ _ h => h.elim)
  rintro r M' ⟨rfl, rfl⟩
  refine ⟨⟨rfl, rfl, rfl, rfl, rfl⟩, ?_⟩
  rw [← mz_rn [.own ir, .own ib, .own im, .own it] M.length (.pair .i64 .i64) es, ← List.append_nil ((((M.set ir _).set ib _).set im _).set it _)] at h
  exact h
theorem rread_at {iF iT iR g d gr cr c0 c1 a : Nat} {ow oR : Bool} {ts : List Tell} {row : List Bool} {cv : Nat → Nat} (h1 : M[iF]? = some (.fam ow ts.length (bF ts cv))) (h2 : M[iT]? = some (tO iF cv g d ts)) (h3 : M[iR]? = some (.one oR gr (.bools row cr)))
    (hts : ts.length ≤ 1000000) (h15 : ∀ t ∈ ts, t.2.2 ≤ 15) (hr : row.length ≤ 10000000) (ha : a ≤ row.length) (hc1 : row.length ≤ c1) (hcr : c1 ≤ cr)
    (hK : K (.tup [.int .i64 (refF ts row a).1, .int .i64 ((refF ts row a).2.1 : Int), .int .i64 (refF ts row a).2.2]) M) :
    CallA Try.prog 22 [.sl iT g 0 ts.length c0, .sl iR gr 0 row.length c1, .int .i64 (a : Int)] M K Kp := by
  refine CallA.lift [.sha iF, .win iT g 0, .win iR gr 0] (rread_call (ts := ts) (row := row) (cv := cv) (d := d) (cr := cr) (c0 := c0) (c1 := c1) (a := a) (K := fun r M => r = .tup [.int .i64 (refF ts row a).1, .int .i64 ((refF ts row a).2.1 : Int), .int .i64 (refF ts row a).2.2] ∧ M = rrH cv d cr ts row) (Kp := fun _ _ => False) hts h15 hr ha hc1 hcr ⟨rfl, rfl⟩) rfl rfl
    ⟨⟨rfl, _, h1, rfl⟩, ⟨_, _, _, rfl, slot_one h2, WinC.same rfl (fun h => h)⟩, ⟨_, _, _, rfl, slot_one h3, WinC.same rfl (fun h => h)⟩, trivial⟩ ⟨fun _ => trivial, fun _ => rfl, trivial, trivial⟩ ?_ (fun _ _ h => h.elim)
  rintro r M' ⟨rfl, rfl⟩
  refine ⟨⟨rfl, rfl, rfl, rfl⟩, ?_⟩
  rw [← List.append_nil M] at hK
  exact hK
end

/-- Read's place stays within the row. -/
theorem refG_le (ts : List Tell) (row : List Bool) (a : Nat) : ∀ (f b : Nat), b ≤ row.length → (refG ts row a f b).2.1 ≤ row.length
  | 0, b, h => h
  | f + 1, b, h => by
    simp only [refG]
    split
    · exact h
    · split
      · split
        · exact h
        · exact refG_le ts row a f (b + 1) (by omega)
      · exact h
theorem refF_le {ts : List Tell} {row : List Bool} {a : Nat} (h : a ≤ row.length) : (refF ts row a).2.1 ≤ row.length := refG_le ts row a _ a h
theorem huffReads_law (ls : List Int) (c : Nat) (hc : ls.length ≤ c ∧ c ≤ 9223372036854775807) (hx : ∀ x ∈ ls, IntKind.u8.min ≤ x ∧ x ≤ IntKind.u8.max)
    (b : List Int) (cb : Nat) (hcb : b.length ≤ cb ∧ cb ≤ 9223372036854775807) (hxb : ∀ x ∈ b, IntKind.u8.min ≤ x ∧ x ≤ IntKind.u8.max) (n : Int) (hn : IntKind.u8.min ≤ n ∧ n ≤ IntKind.u8.max) :
    CallA Try.prog 8 [.sl 0 0 0 ls.length c, .sl 1 0 0 b.length cb, .int .u8 n] [.one false 0 (.ints .u8 ls c), .one false 0 (.ints .u8 b cb)] (fun r _ => r = .bo true) (fun _ _ => False) := by
  have hu : ∀ x ∈ ls, 0 ≤ x ∧ x < 256 := by
    intro x hxl
    have h1 : 0 ≤ x := (hx x hxl).1
    have h2 : x ≤ 255 := (hx x hxl).2
    omega
  have hub : ∀ x ∈ b, 0 ≤ x ∧ x < 256 := by
    intro x hxl
    have h1 : 0 ≤ x := (hxb x hxl).1
    have h2 : x ≤ 255 := (hxb x hxl).2
    omega
  have hn0 : 0 ≤ n ∧ n ≤ 255 := hn
  refine CallA.post_asB ?_
  refine step8 (fun _ => [2]) [] rfl ?_
  repeat ((conv => whnf); first | with_reducible refine O_step ?_ | with_reducible refine S_step ?_ | with_reducible refine D_step ?_ | with_reducible refine RO.exit ?_ | with_reducible refine RO.ret ?_ | ((with_reducible refine And.intro ?sc ?_); case sc => exact side) | ((with_reducible refine br_f ?sc ?_); case sc => exact sideB) | ((with_reducible refine br_t ?sc ?_); case sc => exact sideB))
  refine And.intro (fun h1 => ?_) (fun h1 => ?_)
  · repeat ((conv => whnf); first | with_reducible refine O_step ?_ | with_reducible refine S_step ?_ | with_reducible refine D_step ?_ | with_reducible refine RO.exit ?_ | with_reducible refine RO.ret ?_ | ((with_reducible refine And.intro ?sc ?_); case sc => exact side) | ((with_reducible refine br_f ?sc ?_); case sc => exact sideB) | ((with_reducible refine br_t ?sc ?_); case sc => exact sideB))
    exact ⟨true, rfl, rfl⟩
  have h1' : ¬ (40 : Int) < ls.length := by simpa using h1
  repeat ((conv => whnf); first | with_reducible refine O_step ?_ | with_reducible refine S_step ?_ | with_reducible refine D_step ?_ | with_reducible refine RO.exit ?_ | with_reducible refine RO.ret ?_ | ((with_reducible refine And.intro ?sc ?_); case sc => exact side) | ((with_reducible refine br_f ?sc ?_); case sc => exact sideB) | ((with_reducible refine br_t ?sc ?_); case sc => exact sideB))
  refine And.intro (fun h2 => ?_) (fun h2 => ?_)
  · repeat ((conv => whnf); first | with_reducible refine O_step ?_ | with_reducible refine S_step ?_ | with_reducible refine D_step ?_ | with_reducible refine RO.exit ?_ | with_reducible refine RO.ret ?_ | ((with_reducible refine And.intro ?sc ?_); case sc => exact side) | ((with_reducible refine br_f ?sc ?_); case sc => exact sideB) | ((with_reducible refine br_t ?sc ?_); case sc => exact sideB))
    exact ⟨true, rfl, rfl⟩
  have h2' : ¬ (60 : Int) < b.length := by simpa using h2
  repeat ((conv => whnf); first | with_reducible refine O_step ?_ | with_reducible refine S_step ?_ | with_reducible refine D_step ?_ | with_reducible refine RO.exit ?_ | with_reducible refine RO.ret ?_ | ((with_reducible refine And.intro ?sc ?_); case sc => exact side) | ((with_reducible refine br_f ?sc ?_); case sc => exact sideB) | ((with_reducible refine br_t ?sc ?_); case sc => exact sideB))
  intro zs hzs
  obtain rfl : ls = zs := by rw [hzs]; simp
  repeat ((conv => whnf); first | with_reducible refine O_step ?_ | with_reducible refine S_step ?_ | with_reducible refine D_step ?_ | with_reducible refine RO.exit ?_ | with_reducible refine RO.ret ?_ | ((with_reducible refine And.intro ?sc ?_); case sc => exact side) | ((with_reducible refine br_f ?sc ?_); case sc => exact sideB) | ((with_reducible refine br_t ?sc ?_); case sc => exact sideB))
  intro c1 hc1
  repeat ((conv => whnf); first | with_reducible refine O_step ?_ | with_reducible refine S_step ?_ | with_reducible refine D_step ?_ | with_reducible refine RO.exit ?_ | with_reducible refine RO.ret ?_ | ((with_reducible refine And.intro ?sc ?_); case sc => exact side) | ((with_reducible refine br_f ?sc ?_); case sc => exact sideB) | ((with_reducible refine br_t ?sc ?_); case sc => exact sideB))
  have hal : (allT ls).length ≤ 600 := by
    unfold allT
    split
    · have := tellS_cnt ls 15
      omega
    · exact Nat.zero_le _
  refine hnew_at (i := 2) (ls := ls) rfl rfl (by omega) hu (fun he => ?_) (fun he => ?_)
  · repeat ((conv => whnf); first | with_reducible refine O_step ?_ | with_reducible refine S_step ?_ | with_reducible refine D_step ?_ | with_reducible refine RO.exit ?_ | with_reducible refine RO.ret ?_ | ((with_reducible refine And.intro ?sc ?_); case sc => exact side) | ((with_reducible refine br_f ?sc ?_); case sc => exact sideB) | ((with_reducible refine br_t ?sc ?_); case sc => exact sideB))
    refine all_at (i := 0) (ls := ls) rfl rfl (by omega) hu fun g2 c2 cv hc2 => ?_
    have hd : decide (eachE ls = 0) = false := decide_eq_false he
    repeat ((conv => whnf); first | with_reducible refine O_step ?_ | with_reducible refine S_step ?_ | with_reducible refine D_step ?_ | with_reducible refine RO.exit ?_ | with_reducible refine RO.ret ?_ | ((with_reducible refine And.intro ?sc ?_); case sc => exact side) | ((with_reducible refine br_f ?sc ?_); case sc => exact sideB) | ((with_reducible refine br_t ?sc ?_); case sc => exact sideB))
    refine WO.go (σ := Nat × List Int) (fun s => s.1 ≤ ls.length ∧ s.2.length = ls.length) (fun s => ls.length - s.1)
      (fun s => [(0, .sl 0 0 0 ls.length c), (1, .sl 1 0 0 b.length cb), (2, .int .u8 n), (7, .sl 2 0 0 ls.length c1), (8, .np), (9, .int .i64 (eachE ls)), (10, .sl 4 g2 0 (allT ls).length c2), (11, .int .i64 (eachE ls)), (12, .int .i64 (s.1 : Int))])
      (fun s => [.one false 0 (.ints .u8 ls c), .one false 0 (.ints .u8 b cb), .one true 0 (.ints .u8 s.2 c1), .gone, .gone]) (0, ls) tb_ok mixed (by kernel_rfl) ⟨Nat.zero_le _, rfl⟩ (And.intro rfl (And.intro rfl (And.intro rfl (And.intro rfl (And.intro rfl (And.intro rfl (And.intro rfl (And.intro rfl (And.intro rfl (trivial)))))))))) (And.intro rfl (And.intro rfl (And.intro rfl (And.intro trivial (And.intro trivial (trivial)))))) (fun _ => rfl) (fun _ => rfl) (fun _ => ⟨trivial, trivial, trivial, trivial, trivial, trivial⟩) ?_
    rintro ⟨i, zs⟩ ⟨i1, i2⟩ d0
    simp only at i1 i2
    repeat ((conv => whnf); first | with_reducible refine O_step ?_ | with_reducible refine S_step ?_ | with_reducible refine D_step ?_ | with_reducible refine RO.exit ?_ | with_reducible refine RO.ret ?_ | ((with_reducible refine And.intro ?sc ?_); case sc => exact side) | ((with_reducible refine br_f ?sc ?_); case sc => exact sideB) | ((with_reducible refine br_t ?sc ?_); case sc => exact sideB))
    refine And.intro (fun hi => ?_) (fun hi => ?_)
    · have hil : i < ls.length := by simp only [decide_eq_true_eq] at hi; omega
      repeat ((conv => whnf); first | with_reducible refine O_step ?_ | with_reducible refine S_step ?_ | with_reducible refine D_step ?_ | with_reducible refine RO.exit ?_ | with_reducible refine RO.ret ?_ | ((with_reducible refine And.intro ?sc ?_); case sc => exact side) | ((with_reducible refine br_f ?sc ?_); case sc => exact sideB) | ((with_reducible refine br_t ?sc ?_); case sc => exact sideB))
      refine RO.same (i + 1, zs.set i 1) ⟨by show i + 1 ≤ _; omega, by show (zs.set i 1).length = _; rw [List.length_set]; exact i2⟩ (show ls.length - (i + 1) < ls.length - i by omega) (And.intro rfl (And.intro rfl (And.intro rfl (And.intro rfl (And.intro rfl (And.intro rfl (And.intro rfl (And.intro rfl (And.intro rfl (trivial)))))))))) (And.intro rfl (And.intro rfl (And.intro rfl (And.intro trivial (And.intro trivial (trivial))))))
    · repeat ((conv => whnf); first | with_reducible refine O_step ?_ | with_reducible refine S_step ?_ | with_reducible refine D_step ?_ | with_reducible refine RO.exit ?_ | with_reducible refine RO.ret ?_ | ((with_reducible refine And.intro ?sc ?_); case sc => exact side) | ((with_reducible refine br_f ?sc ?_); case sc => exact sideB) | ((with_reducible refine br_t ?sc ?_); case sc => exact sideB))
      refine And.intro (fun hA => ?_) (fun hA => ?_)
      · repeat ((conv => whnf); first | with_reducible refine O_step ?_ | with_reducible refine S_step ?_ | with_reducible refine D_step ?_ | with_reducible refine RO.exit ?_ | with_reducible refine RO.ret ?_ | ((with_reducible refine And.intro ?sc ?_); case sc => exact side) | ((with_reducible refine br_f ?sc ?_); case sc => exact sideB) | ((with_reducible refine br_t ?sc ?_); case sc => exact sideB))
        refine hcodes_at ?_
        repeat ((conv => whnf); first | with_reducible refine O_step ?_ | with_reducible refine S_step ?_ | with_reducible refine D_step ?_ | with_reducible refine RO.exit ?_ | with_reducible refine RO.ret ?_ | ((with_reducible refine And.intro ?sc ?_); case sc => exact side) | ((with_reducible refine br_f ?sc ?_); case sc => exact sideB) | ((with_reducible refine br_t ?sc ?_); case sc => exact sideB))
        exact ⟨true, rfl, rfl⟩
      · exfalso; simp [he] at hA
  · repeat ((conv => whnf); first | with_reducible refine O_step ?_ | with_reducible refine S_step ?_ | with_reducible refine D_step ?_ | with_reducible refine RO.exit ?_ | with_reducible refine RO.ret ?_ | ((with_reducible refine And.intro ?sc ?_); case sc => exact side) | ((with_reducible refine br_f ?sc ?_); case sc => exact sideB) | ((with_reducible refine br_t ?sc ?_); case sc => exact sideB))
    refine all_at (i := 0) (ls := ls) rfl rfl (by omega) hu fun g2 c2 cv hc2 => ?_
    have hd : decide (eachE ls = 0) = true := decide_eq_true he
    have ht : allT ls = (tellS ls 15).2 := by unfold allT; rw [if_pos he]
    repeat ((conv => whnf); first | with_reducible refine O_step ?_ | with_reducible refine S_step ?_ | with_reducible refine D_step ?_ | with_reducible refine RO.exit ?_ | with_reducible refine RO.ret ?_ | ((with_reducible refine And.intro ?sc ?_); case sc => exact side) | ((with_reducible refine br_f ?sc ?_); case sc => exact sideB) | ((with_reducible refine br_t ?sc ?_); case sc => exact sideB))
    refine WO.go (σ := Nat × List Int) (fun s => s.1 ≤ ls.length ∧ s.2.length = ls.length) (fun s => ls.length - s.1)
      (fun s => [(0, .sl 0 0 0 ls.length c), (1, .sl 1 0 0 b.length cb), (2, .int .u8 n), (7, .sl 2 0 0 ls.length c1), (8, .ptr 4 0 0), (9, .int .i64 0), (10, .sl 6 g2 0 (allT ls).length c2), (11, .int .i64 (eachE ls)), (12, .int .i64 (s.1 : Int))])
      (fun s => [.one false 0 (.ints .u8 ls c), .one false 0 (.ints .u8 b cb), .one true 0 (.ints .u8 s.2 c1), .one true 0 (.map (.pair .i64 .i64) (mzM (layM (tellS ls 15).2 []))), .one true 0 (.cells [.mp 3 0]), .fam true (allT ls).length (bF (allT ls) cv), tO 5 cv g2 c2 (allT ls)]) (0, ls) tb_ok mixed (by kernel_rfl) ⟨Nat.zero_le _, rfl⟩ (And.intro rfl (And.intro rfl (And.intro rfl (And.intro rfl (And.intro rfl (And.intro rfl (And.intro rfl (And.intro rfl (And.intro rfl (trivial)))))))))) (And.intro rfl (And.intro rfl (And.intro rfl (And.intro rfl (And.intro rfl (And.intro rfl (And.intro rfl (trivial)))))))) (fun _ => rfl) (fun _ => rfl) (fun _ => ⟨trivial, trivial, trivial, mz_nb _ (.pair .i64 .i64) _, rfl, fun _ => trivial, fun _ => rfl, trivial⟩) ?_
    rintro ⟨i, zs⟩ ⟨i1, i2⟩ d0
    simp only at i1 i2
    repeat ((conv => whnf); first | with_reducible refine O_step ?_ | with_reducible refine S_step ?_ | with_reducible refine D_step ?_ | with_reducible refine RO.exit ?_ | with_reducible refine RO.ret ?_ | ((with_reducible refine And.intro ?sc ?_); case sc => exact side) | ((with_reducible refine br_f ?sc ?_); case sc => exact sideB) | ((with_reducible refine br_t ?sc ?_); case sc => exact sideB))
    refine And.intro (fun hi => ?_) (fun hi => ?_)
    · have hil : i < ls.length := by simp only [decide_eq_true_eq] at hi; omega
      repeat ((conv => whnf); first | with_reducible refine O_step ?_ | with_reducible refine S_step ?_ | with_reducible refine D_step ?_ | with_reducible refine RO.exit ?_ | with_reducible refine RO.ret ?_ | ((with_reducible refine And.intro ?sc ?_); case sc => exact side) | ((with_reducible refine br_f ?sc ?_); case sc => exact sideB) | ((with_reducible refine br_t ?sc ?_); case sc => exact sideB))
      refine RO.same (i + 1, zs.set i 1) ⟨by show i + 1 ≤ _; omega, by show (zs.set i 1).length = _; rw [List.length_set]; exact i2⟩ (show ls.length - (i + 1) < ls.length - i by omega) (And.intro rfl (And.intro rfl (And.intro rfl (And.intro rfl (And.intro rfl (And.intro rfl (And.intro rfl (And.intro rfl (And.intro rfl (trivial)))))))))) (And.intro rfl (And.intro rfl (And.intro rfl (And.intro rfl (And.intro rfl (And.intro rfl (And.intro rfl (trivial))))))))
    repeat ((conv => whnf); first | with_reducible refine O_step ?_ | with_reducible refine S_step ?_ | with_reducible refine D_step ?_ | with_reducible refine RO.exit ?_ | with_reducible refine RO.ret ?_ | ((with_reducible refine And.intro ?sc ?_); case sc => exact side) | ((with_reducible refine br_f ?sc ?_); case sc => exact sideB) | ((with_reducible refine br_t ?sc ?_); case sc => exact sideB))
    refine And.intro (fun hA => ?_) (fun hA => ?_)
    · exfalso; simp [he] at hA
    repeat ((conv => whnf); first | with_reducible refine O_step ?_ | with_reducible refine S_step ?_ | with_reducible refine D_step ?_ | with_reducible refine RO.exit ?_ | with_reducible refine RO.ret ?_ | ((with_reducible refine And.intro ?sc ?_); case sc => exact side) | ((with_reducible refine br_f ?sc ?_); case sc => exact sideB) | ((with_reducible refine br_t ?sc ?_); case sc => exact sideB))
    refine new_at (i := 1) (xs := b) rfl rfl (by omega) fun g3 c3 hc3 => ?_
    repeat ((conv => whnf); first | with_reducible refine O_step ?_ | with_reducible refine S_step ?_ | with_reducible refine D_step ?_ | with_reducible refine RO.exit ?_ | with_reducible refine RO.ret ?_ | ((with_reducible refine And.intro ?sc ?_); case sc => exact side) | ((with_reducible refine br_f ?sc ?_); case sc => exact sideB) | ((with_reducible refine br_t ?sc ?_); case sc => exact sideB))
    refine rofs_at (i := 1) (xs := b) rfl rfl (by omega) hub fun g4 c4 hc4 => ?_
    have hul := unpack_length b
    repeat ((conv => whnf); first | with_reducible refine O_step ?_ | with_reducible refine S_step ?_ | with_reducible refine D_step ?_ | with_reducible refine RO.exit ?_ | with_reducible refine RO.ret ?_ | ((with_reducible refine And.intro ?sc ?_); case sc => exact side) | ((with_reducible refine br_f ?sc ?_); case sc => exact sideB) | ((with_reducible refine br_t ?sc ?_); case sc => exact sideB))
    refine WO.go (σ := Nat × Nat) (fun s => (s.1 : Int) ≤ n % 60 ∧ s.2 ≤ 8 * b.length) (fun s => (n % 60).toNat - s.1)
      (fun s => [(2, .int .u8 n), (8, .ptr 4 0 0), (10, .sl 6 g2 0 (allT ls).length c2), (13, .ptr 8 0 0), (14, .sl 9 g4 0 (unpack b).length c4), (15, .int .i64 (s.2 : Int)), (16, .int .i64 (s.1 : Int))])
      (fun s => [.gone, .gone, .gone, .one true 0 (.map (.pair .i64 .i64) (mzM (layM (tellS ls 15).2 []))), .one true 0 (.cells [.mp 3 0]), .fam true (allT ls).length (bF (allT ls) cv), tO 5 cv g2 c2 (allT ls), rb g3 c3 b, ro 7 g3 c3 b s.2, .one true g4 (.bools (unpack b) c4)]) (0, 0) tb_ok mixed (by kernel_rfl) ⟨by show (0 : Int) ≤ n % 60; omega, Nat.zero_le _⟩ (And.intro rfl (And.intro rfl (And.intro rfl (And.intro rfl (And.intro rfl (And.intro rfl (And.intro rfl (trivial)))))))) (And.intro trivial (And.intro trivial (And.intro trivial (And.intro rfl (And.intro rfl (And.intro rfl (And.intro rfl (And.intro rfl (And.intro rfl (And.intro rfl (trivial))))))))))) (fun _ => rfl) (fun _ => rfl) (fun _ => ⟨trivial, trivial, trivial, mz_nb _ (.pair .i64 .i64) _, rfl, fun _ => trivial, fun _ => rfl, trivial, rfl, trivial, trivial⟩) ?_
    rintro ⟨i, a⟩ ⟨i1, i2⟩ d1
    simp only at i1 i2
    have htm : n.tmod 60 = n % 60 := Int.tmod_eq_emod_of_nonneg hn0.1
    have hrd : treadF (layM (tellS ls 15).2 []) (unpack b) a = refF (allT ls) (unpack b) a := by rw [← ht]; exact treadF_ref (by omega)
    have hle : (refF (allT ls) (unpack b) a).2.1 ≤ (unpack b).length := refF_le (by omega)
    repeat ((conv => whnf); first | with_reducible refine O_step ?_ | with_reducible refine S_step ?_ | with_reducible refine D_step ?_ | with_reducible refine RO.exit ?_ | with_reducible refine RO.ret ?_ | ((with_reducible refine And.intro ?sc ?_); case sc => exact side) | ((with_reducible refine br_f ?sc ?_); case sc => exact sideB) | ((with_reducible refine br_t ?sc ?_); case sc => exact sideB))
    refine And.intro (fun hi => ?_) (fun hi => ?_)
    · have hil : (i : Int) < n % 60 := by simp only [decide_eq_true_eq] at hi; omega
      repeat ((conv => whnf); first | with_reducible refine O_step ?_ | with_reducible refine S_step ?_ | with_reducible refine D_step ?_ | with_reducible refine RO.exit ?_ | with_reducible refine RO.ret ?_ | ((with_reducible refine And.intro ?sc ?_); case sc => exact side) | ((with_reducible refine br_f ?sc ?_); case sc => exact sideB) | ((with_reducible refine br_t ?sc ?_); case sc => exact sideB))
      refine tread_at (ir := 8) (ib := 7) (im := 3) (it := 4) (g := g3) (c := c3) (xs := b) (a := a) (es := layM (tellS ls 15).2 []) rfl rfl rfl rfl rfl (by omega) i2 hub (by rw [← ht]; exact keyOk_all ls) ?_
      rw [hrd]
      repeat ((conv => whnf); first | with_reducible refine O_step ?_ | with_reducible refine S_step ?_ | with_reducible refine D_step ?_ | with_reducible refine RO.exit ?_ | with_reducible refine RO.ret ?_ | ((with_reducible refine And.intro ?sc ?_); case sc => exact side) | ((with_reducible refine br_f ?sc ?_); case sc => exact sideB) | ((with_reducible refine br_t ?sc ?_); case sc => exact sideB))
      refine rread_at (iF := 5) (iT := 6) (iR := 9) (g := g2) (d := c2) (gr := g4) (cr := c4) (a := a) (ts := allT ls) (row := unpack b) (cv := cv) rfl rfl rfl (by omega) (fun t h => (allT_mem h).2.2.1) (by omega) (by omega) hc4 (Nat.le_refl _) ?_
      generalize hrf : refF (allT ls) (unpack b) a = rf at hle ⊢
      repeat ((conv => whnf); first | with_reducible refine O_step ?_ | with_reducible refine S_step ?_ | with_reducible refine D_step ?_ | with_reducible refine RO.exit ?_ | with_reducible refine RO.ret ?_ | ((with_reducible refine And.intro ?sc ?_); case sc => exact side) | ((with_reducible refine br_f ?sc ?_); case sc => exact sideB) | ((with_reducible refine br_t ?sc ?_); case sc => exact sideB))
      refine at_at (i := 8) (j := 7) (g := g3) (c := c3) (xs := b) (a := rf.2.1) rfl rfl rfl ?_
      repeat ((conv => whnf); first | with_reducible refine O_step ?_ | with_reducible refine S_step ?_ | with_reducible refine D_step ?_ | with_reducible refine RO.exit ?_ | with_reducible refine RO.ret ?_ | ((with_reducible refine And.intro ?sc ?_); case sc => exact side) | ((with_reducible refine br_f ?sc ?_); case sc => exact sideB) | ((with_reducible refine br_t ?sc ?_); case sc => exact sideB))
      refine RO.same (i + 1, rf.2.1) ⟨by show ((i + 1 : Nat) : Int) ≤ _; omega, by show rf.2.1 ≤ _; omega⟩ (show (n % 60).toNat - (i + 1) < (n % 60).toNat - i by omega) (And.intro rfl (And.intro rfl (And.intro rfl (And.intro rfl (And.intro rfl (And.intro rfl (And.intro rfl (trivial)))))))) (And.intro trivial (And.intro trivial (And.intro trivial (And.intro rfl (And.intro rfl (And.intro rfl (And.intro rfl (And.intro rfl (And.intro rfl (And.intro rfl (trivial)))))))))))
    · repeat ((conv => whnf); first | with_reducible refine O_step ?_ | with_reducible refine S_step ?_ | with_reducible refine D_step ?_ | with_reducible refine RO.exit ?_ | with_reducible refine RO.ret ?_ | ((with_reducible refine And.intro ?sc ?_); case sc => exact side) | ((with_reducible refine br_f ?sc ?_); case sc => exact sideB) | ((with_reducible refine br_t ?sc ?_); case sc => exact sideB))
      refine hcodes_at ?_
      repeat ((conv => whnf); first | with_reducible refine O_step ?_ | with_reducible refine S_step ?_ | with_reducible refine D_step ?_ | with_reducible refine RO.exit ?_ | with_reducible refine RO.ret ?_ | ((with_reducible refine And.intro ?sc ?_); case sc => exact side) | ((with_reducible refine br_f ?sc ?_); case sc => exact sideB) | ((with_reducible refine br_t ?sc ?_); case sc => exact sideB))
      exact ⟨true, rfl, rfl⟩
end Go.Proofs.Ytdnmbmnfglbfoaa
