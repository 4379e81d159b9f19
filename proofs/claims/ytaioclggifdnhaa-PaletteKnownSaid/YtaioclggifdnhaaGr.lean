/- Layer 11: the reference's Cut and Same. Layer 11: the reference's Encode. Layer 11: rle.Encode (a range over a function). Layer 11: what Decode answers, plainly; the reference's Decode. Layer 11: the reference's Decode. Layer 11: slices.Repeat of one pixel. Layer 11: rle.Decode (a range over slices.Chunk). Layer 11: the laws' example. Layer 11: what Encode and Decode are to each other, plainly. -/
import Derived.Test.YtaioclggifdnhaaGb

set_option linter.unusedVariables false

set_option linter.unusedSimpArgs false

open Go.RowKit

namespace Go.Proofs.Ytaioclggifdnhaa

set_option maxRecDepth 10000

/-- The pixels' low bits. -/
def cutL (xs : List Int) : List Int := xs.map (· % 16777216)

theorem rcut_call {xs : List Int} {c0 c : Nat} (hx : xs.length ≤ 1000000000) (h0 : ∀ x ∈ xs, 0 ≤ x ∧ x < 4294967296) {Kp} :
    CallA Try.prog 20 [.sl 0 0 0 xs.length c0] [.one false 0 (.ints .u32 xs c)]
      (fun r M => ∃ g' c', r = .sl 1 g' 0 (cutL xs).length c' ∧ M = [.one false 0 (.ints .u32 xs c), .one true g' (.ints .u32 (cutL xs) c')] ∧ (cutL xs).length ≤ c') Kp := by
  refine CallA.post_sub ?_
  refine step20 (fun _ => [0]) [] rfl ?_
  repeat ((conv => whnf); first | with_reducible refine O_step ?_ | with_reducible refine S_step ?_ | with_reducible refine D_step ?_ | with_reducible refine RO.exit ?_ | with_reducible refine RO.ret ?_ | ((with_reducible refine And.intro ?sc ?_); case sc => exact side))
  refine WO.gov (σ := Nat × Nat × Nat × List Int) (fun (j, g, cc, ys) => j ≤ xs.length ∧ ys.length ≤ cc ∧ ys = (cutL xs).take j) (fun (j, _, _, _) => xs.length - j)
    (fun (j, g, cc, ys) => [(0, .sl 0 0 0 xs.length c0), (3, .sl 1 g 0 ys.length cc), (4, .int .i64 j)])
    (fun (j, g, cc, ys) => [.one false 0 (.ints .u32 xs c), .one true g (.ints .u32 ys cc)]) (0, 0, 0, []) tb_ok mixed (by kernel_rfl)
    [(0, .sl 0 0 0 xs.length c0), (3, .ns), (4, .int .i64 0)] _ ⟨Nat.zero_le _, Nat.zero_le _, rfl⟩ (And.intro rfl (And.intro rfl (And.intro rfl (trivial)))) rfl (Vw.nils (x := .ints .u32 [] 0) ⟨rfl, rfl⟩ ?_) (And.intro rfl (And.intro rfl (trivial))) (fun _ => rfl) (fun _ => rfl) (fun _ => ⟨trivial, trivial, trivial⟩) ?_
  · exact And.intro (.inl rfl) (And.intro (.inr ⟨rfl, rfl⟩) (And.intro (.inl rfl) trivial))
  rintro ⟨j, g, cc, ys⟩ ⟨h1, h2, h3⟩ d
  repeat ((conv => whnf); first | with_reducible refine O_step ?_ | with_reducible refine S_step ?_ | with_reducible refine D_step ?_ | with_reducible refine RO.exit ?_ | with_reducible refine RO.ret ?_ | ((with_reducible refine And.intro ?sc ?_); case sc => exact side))
  refine And.intro (fun hc => ?_) (fun hc => ?_)
  · simp only [decide_eq_true_eq] at hc
    have hj : j < xs.length := by omega
    have hxj := h0 _ (List.getElem_mem hj)
    have hgd : xs.getD ((j : Int).toNat + 0) 0 = xs[j] := by simp [List.getD_eq_getElem?_getD, hj]
    have hyl : ys.length ≤ 1000000000 := by rw [h3]; simp [cutL]; omega
    repeat ((conv => whnf); first | with_reducible refine O_step ?_ | with_reducible refine S_step ?_ | with_reducible refine D_step ?_ | with_reducible refine RO.exit ?_ | with_reducible refine RO.ret ?_ | ((with_reducible refine And.intro ?sc ?_); case sc => exact side))
    intro zs hzs
    have hz : zs = [xs[j] % 16777216] := by rw [hzs, hgd, Int.tmod_eq_emod_of_nonneg hxj.1]; rfl
    subst hz
    repeat ((conv => whnf); first | with_reducible refine O_step ?_ | with_reducible refine S_step ?_ | with_reducible refine D_step ?_ | with_reducible refine RO.exit ?_ | with_reducible refine RO.ret ?_ | ((with_reducible refine And.intro ?sc ?_); case sc => exact side))
    intro c1 hc1
    repeat ((conv => whnf); first | with_reducible refine O_step ?_ | with_reducible refine S_step ?_ | with_reducible refine D_step ?_ | with_reducible refine RO.exit ?_ | with_reducible refine RO.ret ?_ | ((with_reducible refine And.intro ?sc ?_); case sc => exact side))
    refine RO.same (j + 1, g + 1, c1, ys ++ [xs[j] % 16777216]) ⟨by omega, by simp; omega, ?_⟩ (show xs.length - (j + 1) < xs.length - j by omega) (And.intro rfl (And.intro ?_ (And.intro ?_ trivial))) (And.intro rfl (And.intro rfl (trivial)))
    · have hjc : j < (cutL xs).length := by simpa [cutL] using hj
      rw [List.take_succ_eq_append_getElem hjc, ← h3]; simp [cutL]
    · show AV.sl 1 (g + 1) 0 (ys.length + 1) c1 = AV.sl 1 (g + 1) 0 (ys ++ [xs[j] % 16777216]).length c1
      rw [List.length_append]; rfl
    · show AV.int .i64 ((j : Int) + 1) = AV.int .i64 ((j + 1 : Nat) : Int)
      push_cast; rfl
  · simp only [decide_eq_false_iff_not] at hc
    obtain rfl : j = xs.length := by omega
    have e : ys = cutL xs := by rw [h3]; exact List.take_of_length_le (by simp [cutL])
    subst e
    repeat ((conv => whnf); first | with_reducible refine O_step ?_ | with_reducible refine S_step ?_ | with_reducible refine D_step ?_ | with_reducible refine RO.exit ?_ | with_reducible refine RO.ret ?_ | ((with_reducible refine And.intro ?sc ?_); case sc => exact side))
    exact Exists.intro [AO.one false 0 (.ints .u32 xs c), AO.one true g (.ints .u32 (cutL xs) cc)] (And.intro (And.intro rfl (And.intro rfl (trivial))) (And.intro ⟨trivial, trivial, trivial⟩ (And.intro rfl ⟨g, cc, rfl, rfl, h2⟩)))
theorem rsame_call {xs ys : List Int} {c0 c1 c d : Nat} (hx : xs.length ≤ 1000000000) (hy : ys.length ≤ 1000000000) {K Kp : AV → AH → Prop} (h : K (.bo (decide (xs = ys))) [.one false 0 (.ints .u32 xs c), .one false 0 (.ints .u32 ys d)]) :
    CallA Try.prog 16 [.sl 0 0 0 xs.length c0, .sl 1 0 0 ys.length c1] [.one false 0 (.ints .u32 xs c), .one false 0 (.ints .u32 ys d)] K Kp := by
  refine walk16 (fun _ => [0, 1]) [] rfl ?_
  refine And.intro (fun h1 => ?_) (fun h1 => ?_)
  · have e : decide (xs = ys) = false := by
      simp only [Bool.not_eq_true', decide_eq_false_iff_not] at h1
      rw [decide_eq_false_iff_not]; rintro rfl; exact h1 rfl
    rw [e] at h; exact h
  · have hlen : xs.length = ys.length := by
      have : ((xs.length : Nat) : Int) = ys.length := by simpa using h1
      omega
    refine WA.loop (σ := Nat) (fun j => j ≤ xs.length ∧ xs.take j = ys.take j) (fun j => xs.length - j)
      (fun j => [(0, .sl 0 0 0 xs.length c0), (1, .sl 1 0 0 ys.length c1), (5, .int .i64 (j : Int))]) (fun _ => [.one false 0 (.ints .u32 xs c), .one false 0 (.ints .u32 ys d)]) 0 tb_ok mixed (by kernel_rfl)
      ⟨⟨Nat.zero_le _, by simp⟩, And.intro rfl (And.intro rfl (And.intro rfl trivial)), And.intro rfl (And.intro rfl trivial)⟩ (fun _ => rfl) (fun _ => rfl) (fun _ => ⟨trivial, trivial, trivial⟩) ?_
    rintro j ⟨hj, ht⟩ dd
    refine And.intro (fun hc => ?_) (fun hc => ?_)
    · simp only [decide_eq_true_eq] at hc
      repeat (refine And.intro (by first | exact rfl | omega) ?_)
      have hjx : j < xs.length := by omega
      have hjy : j < ys.length := by omega
      have hgx : xs.getD (((j : Int)).toNat + 0) 0 = xs[j] := by simp [List.getD_eq_getElem?_getD, hjx]
      have hgy : ys.getD (((j : Int)).toNat + 0) 0 = ys[j] := by simp [List.getD_eq_getElem?_getD, hjy]
      refine And.intro (fun hb => ?_) (fun hb => ?_)
      · rw [hgx, hgy] at hb
        have e : decide (xs = ys) = false := by
          rw [decide_eq_false_iff_not]; rintro rfl; simp at hb
        rw [e] at h; exact h
      · rw [hgx, hgy] at hb
        repeat (refine And.intro (by first | exact rfl | omega) ?_)
        refine Exists.intro (j + 1) (And.intro ⟨⟨by omega, ?_⟩, show xs.length - (j + 1) < xs.length - j by omega⟩ (And.intro (And.intro rfl (And.intro rfl (And.intro ?_ trivial))) (And.intro rfl (And.intro rfl trivial))))
        · rw [List.take_succ_eq_append_getElem hjx, List.take_succ_eq_append_getElem hjy, ht]
          simp at hb; rw [hb]
        · show AV.int .i64 ((j : Int) + 1) = AV.int .i64 ((j + 1 : Nat) : Int)
          push_cast; rfl
    · simp only [decide_eq_false_iff_not] at hc
      have hjn : j = xs.length := by omega
      have e : decide (xs = ys) = true := by
        rw [decide_eq_true_eq]
        rw [hjn, List.take_length, hlen, List.take_length] at ht
        exact ht
      rw [e] at h; exact h

theorem rsame_at {M : AH} {K Kp : AV → AH → Prop} {i g n c co j g2 n2 c2 co2 : Nat} {o1 o2 : Bool} {xs ys : List Int} (hi : M[i]? = some (.one o1 g (.ints .u32 xs co))) (hj : M[j]? = some (.one o2 g2 (.ints .u32 ys co2))) (hn : n = xs.length) (hn2 : n2 = ys.length) (hx : xs.length ≤ 1000000000) (hy : ys.length ≤ 1000000000)
    (h : K (.bo (decide (xs = ys))) M) : CallA Try.prog 16 [.sl i g 0 n c, .sl j g2 0 n2 c2] M K Kp := by
  subst hn; subst hn2
  refine CallA.lift [.win i g 0, .win j g2 0] (rsame_call (xs := xs) (ys := ys) (c0 := c) (c1 := c2) (c := co) (d := co2) (K := fun r M => r = .bo (decide (xs = ys)) ∧ M = [.one false 0 (.ints .u32 xs co), .one false 0 (.ints .u32 ys co2)]) (Kp := fun _ _ => False) hx hy ⟨rfl, rfl⟩) rfl rfl
    ⟨⟨_, _, _, rfl, slot_one hi, WinC.same rfl (fun h => h)⟩, ⟨_, _, _, rfl, slot_one hj, WinC.same rfl (fun h => h)⟩, trivial⟩ ⟨trivial, trivial, trivial⟩ ?_ (fun _ _ h => h.elim)
  rintro r M' ⟨rfl, rfl⟩
  refine ⟨⟨rfl, rfl, rfl⟩, ?_⟩
  rw [← List.append_nil M] at h
  exact h

theorem rcut_at {M : AH} {K Kp : AV → AH → Prop} {i g n c co : Nat} {o : Bool} {xs : List Int} (hi : M[i]? = some (.one o g (.ints .u32 xs co))) (hn : n = xs.length) (hx : xs.length ≤ 1000000000) (h0 : ∀ x ∈ xs, 0 ≤ x ∧ x < 4294967296)
    (h : ∀ g' c', (cutL xs).length ≤ c' → K (.sl M.length g' 0 (cutL xs).length c') (M ++ [.one true g' (.ints .u32 (cutL xs) c')])) : CallA Try.prog 20 [.sl i g 0 n c] M K Kp := by
  subst hn
  refine CallA.lift [.win i g 0] (rcut_call (xs := xs) (c0 := c) (c := co) (Kp := fun _ _ => False) hx h0) rfl rfl ⟨⟨_, _, _, rfl, slot_one hi, WinC.same rfl (fun h => h)⟩, trivial⟩ ⟨trivial, trivial⟩ ?_ (fun _ _ h => h.elim)
  rintro r M' ⟨g', c', rfl, rfl, hc'⟩
  exact ⟨⟨rfl, rfl⟩, h g' c' hc'⟩
end Go.Proofs.Ytaioclggifdnhaa


set_option linter.unusedVariables false

set_option linter.unusedSimpArgs false

open Go.RowKit

namespace Go.Proofs.Ytaioclggifdnhaa

set_option maxRecDepth 10000

/-- A run's bytes: of n + 1 pixels. -/
def e4 (n : Nat) (x : Int) : List Int := [(n : Int), x / 65536, x / 256 % 256, x % 256]
/-- What is left to encode; n pixels of the run that goes on are passed. -/
def encG : Nat → List Int → List Int
  | _, [] => []
  | n, x :: l => if l.head? = some x ∧ n + 1 < 256 then encG (n + 1) l else e4 n x ++ encG 0 l
def encF (xs : List Int) : List Int := encG 0 (cutL xs)
theorem cutL_length (xs : List Int) : (cutL xs).length = xs.length := by simp [cutL]
theorem cutL_bound {xs : List Int} : ∀ x ∈ cutL xs, 0 ≤ x ∧ x < 16777216 := by
  intro x hx
  obtain ⟨y, _, rfl⟩ := List.mem_map.1 hx
  omega
theorem encG_length : ∀ (n : Nat) (l : List Int), (encG n l).length ≤ 4 * l.length
  | _, [] => by simp [encG]
  | n, x :: l => by
    simp only [encG]
    split
    · have := encG_length (n + 1) l; simp; omega
    · have := encG_length 0 l; simp [e4]; omega
theorem encG_drop {l : List Int} {i : Nat} (n : Nat) (h : i < l.length) : encG n (l.drop i) = if (i + 1 < l.length ∧ l.getD (i + 1) 0 = l.getD i 0) ∧ n + 1 < 256 then encG (n + 1) (l.drop (i + 1)) else e4 n (l.getD i 0) ++ encG 0 (l.drop (i + 1)) := by
  rw [List.drop_eq_getElem_cons h]
  simp only [encG, List.head?_drop]
  have e : l.getD i 0 = l[i] := by simp [List.getD_eq_getElem?_getD, h]
  rw [e]
  have : (l[i + 1]? = some l[i]) ↔ (i + 1 < l.length ∧ l.getD (i + 1) 0 = l[i]) := by
    rw [List.getD_eq_getElem?_getD, List.getElem?_eq_some_iff]
    constructor
    · rintro ⟨h1, h2⟩; exact ⟨h1, by simp [h1, h2]⟩
    · rintro ⟨h1, h2⟩; exact ⟨h1, by simpa [h1] using h2⟩
  simp only [this]

theorem e4_of {n : Nat} {x : Int} (hn : n < 256) (hx : 0 ≤ x ∧ x < 16777216) : List.take 4 (List.drop 0 [((n : Int) + 1 - 1) % 256, x.tdiv 65536 % 4294967296 % 256, (x.tdiv 256 % 4294967296).tmod 256 % 256, x.tmod 256 % 256]) = e4 n x := by
  have h1 : x.tdiv 65536 = x / 65536 := Int.tdiv_eq_ediv_of_nonneg hx.1
  have h2 : x.tdiv 256 = x / 256 := Int.tdiv_eq_ediv_of_nonneg hx.1
  have h3 : x.tmod 256 = x % 256 := Int.tmod_eq_emod_of_nonneg hx.1
  have h4 : (x / 256 % 4294967296).tmod 256 = x / 256 % 4294967296 % 256 := Int.tmod_eq_emod_of_nonneg (by omega)
  rw [h1, h2, h3, h4]
  show [_, _, _, _] = [_, _, _, _]
  rw [show ((n : Int) + 1 - 1) % 256 = n by omega, show x / 65536 % 4294967296 % 256 = x / 65536 by omega, show x / 256 % 4294967296 % 256 % 256 = x / 256 % 256 by omega, show x % 256 % 256 = x % 256 by omega]

theorem rencode_call {xs : List Int} {c0 c : Nat} (hx : xs.length ≤ 100000000) (h0 : ∀ x ∈ xs, 0 ≤ x ∧ x < 4294967296) {Kp} :
    CallA Try.prog 15 [.sl 0 0 0 xs.length c0] [.one false 0 (.ints .u32 xs c)]
      (fun r M => ∃ g1 c1 g' c', r = .sl 2 g' 0 (encF xs).length c' ∧ M = [.one false 0 (.ints .u32 xs c), .one true g1 (.ints .u32 (cutL xs) c1), .one true g' (.ints .u8 (encF xs) c')] ∧ (encF xs).length ≤ c') Kp := by
  refine CallA.post_sub ?_
  refine step15 (fun _ => [1]) [] rfl ?_
  repeat ((conv => whnf); first | with_reducible refine O_step ?_ | with_reducible refine S_step ?_ | with_reducible refine D_step ?_ | with_reducible refine RO.exit ?_ | with_reducible refine RO.ret ?_ | ((with_reducible refine And.intro ?sc ?_); case sc => exact side))
  refine rcut_at (i := 0) (xs := xs) rfl rfl (by omega) h0 fun g1 c1 hc1 => ?_
  repeat ((conv => whnf); first | with_reducible refine O_step ?_ | with_reducible refine S_step ?_ | with_reducible refine D_step ?_ | with_reducible refine RO.exit ?_ | with_reducible refine RO.ret ?_ | ((with_reducible refine And.intro ?sc ?_); case sc => exact side))
  have hb := cutL_bound (xs := xs)
  have hl := cutL_length xs
  have hF : encF xs = encG 0 (cutL xs) := rfl
  obtain ⟨L, hL⟩ : ∃ L, L = cutL xs := ⟨_, rfl⟩
  rw [← hL] at hb hl hF hc1 ⊢
  refine WO.gov (σ := Nat × Nat × Nat × Nat × List Int) (fun (i, n, g, cc, ys) => i ≤ L.length ∧ n < 256 ∧ ys.length ≤ cc ∧ ys.length ≤ 4 * i ∧ encF xs = ys ++ encG n (L.drop i)) (fun (i, _) => L.length - i)
    (fun (i, n, g, cc, ys) => [(3, .sl 1 g1 0 L.length c1), (4, .sl 2 g 0 ys.length cc), (5, .int .i64 n), (6, .int .i64 i)])
    (fun (i, n, g, cc, ys) => [.one false 0 (.ints .u32 xs c), .one true g1 (.ints .u32 L c1), .one true g (.ints .u8 ys cc)]) (0, 0, 0, 0, []) tb_ok mixed (by kernel_rfl)
    [(3, .sl 1 g1 0 L.length c1), (4, .ns), (5, .int .i64 0), (6, .int .i64 0)] _ ⟨Nat.zero_le _, by decide, Nat.zero_le _, Nat.zero_le _, hF⟩ (And.intro rfl (And.intro rfl (And.intro rfl (And.intro rfl (trivial))))) rfl (Vw.nils (x := .ints .u8 [] 0) ⟨rfl, rfl⟩ ?_) (And.intro rfl (And.intro rfl (And.intro rfl (trivial)))) (fun _ => rfl) (fun _ => rfl) (fun _ => ⟨trivial, trivial, trivial, trivial⟩) ?_
  · exact And.intro (.inl rfl) (And.intro (.inr ⟨rfl, rfl⟩) (And.intro (.inl rfl) (And.intro (.inl rfl) trivial)))
  rintro ⟨i, n, g, cc, ys⟩ ⟨h1, h2, h3, h4, h5⟩ d
  repeat ((conv => whnf); first | with_reducible refine O_step ?_ | with_reducible refine S_step ?_ | with_reducible refine D_step ?_ | with_reducible refine RO.exit ?_ | with_reducible refine RO.ret ?_ | ((with_reducible refine And.intro ?sc ?_); case sc => exact side))
  refine And.intro (fun hc => ?_) (fun hc => ?_)
  · simp only [decide_eq_true_eq] at hc
    have hi : i < L.length := by omega
    have hxi := hb _ (List.getElem_mem hi)
    have hgd : L.getD i 0 = L[i] := by simp [List.getD_eq_getElem?_getD, hi]
    rw [encG_drop n hi] at h5
    repeat ((conv => whnf); first | with_reducible refine O_step ?_ | with_reducible refine S_step ?_ | with_reducible refine D_step ?_ | with_reducible refine RO.exit ?_ | with_reducible refine RO.ret ?_ | ((with_reducible refine And.intro ?sc ?_); case sc => exact side))
    refine And.intro (fun hA => ?_) (fun hA => ?_)
    · simp only [decide_eq_true_eq] at hA
      repeat ((conv => whnf); first | with_reducible refine O_step ?_ | with_reducible refine S_step ?_ | with_reducible refine D_step ?_ | with_reducible refine RO.exit ?_ | with_reducible refine RO.ret ?_ | ((with_reducible refine And.intro ?sc ?_); case sc => exact side))
      refine And.intro (fun hB => ?_) (fun hB => ?_)
      · skip
        repeat ((conv => whnf); first | with_reducible refine O_step ?_ | with_reducible refine S_step ?_ | with_reducible refine D_step ?_ | with_reducible refine RO.exit ?_ | with_reducible refine RO.ret ?_ | ((with_reducible refine And.intro ?sc ?_); case sc => exact side))
        refine And.intro (fun hC => ?_) (fun hC => ?_)
        · skip
          simp only [decide_eq_true_eq] at hC
          have hBx : L.getD (i + 1) 0 = L.getD i 0 := of_decide_eq_true hB
          rw [if_pos (by refine ⟨⟨by omega, hBx⟩, by omega⟩)] at h5
          repeat ((conv => whnf); first | with_reducible refine O_step ?_ | with_reducible refine S_step ?_ | with_reducible refine D_step ?_ | with_reducible refine RO.exit ?_ | with_reducible refine RO.ret ?_ | ((with_reducible refine And.intro ?sc ?_); case sc => exact side))
          refine RO.same (i + 1, n + 1, g, cc, ys) ⟨by omega, by omega, h3, by omega, h5⟩ (show L.length - (i + 1) < L.length - i by omega) (And.intro rfl (And.intro rfl (And.intro ?_ (And.intro ?_ trivial)))) (And.intro rfl (And.intro rfl (And.intro rfl (trivial))))
          · show AV.int .i64 ((n : Int) + 1) = AV.int .i64 ((n + 1 : Nat) : Int)
            push_cast; rfl
          · show AV.int .i64 ((i : Int) + 1) = AV.int .i64 ((i + 1 : Nat) : Int)
            push_cast; rfl
        · skip
          simp only [decide_eq_false_iff_not] at hC
          repeat ((conv => whnf); first | with_reducible refine O_step ?_ | with_reducible refine S_step ?_ | with_reducible refine D_step ?_ | with_reducible refine RO.exit ?_ | with_reducible refine RO.ret ?_ | ((with_reducible refine And.intro ?sc ?_); case sc => exact side))
          intro zs hzs
          have hz : zs = e4 n L[i] := by
            rw [hzs]
            have e := e4_of h2 hxi
            rw [← hgd] at e ⊢
            exact e
          subst hz
          have he4 : (e4 n L[i]).length = 4 := rfl
          rw [if_neg (by omega), hgd] at h5
          repeat ((conv => whnf); first | with_reducible refine O_step ?_ | with_reducible refine S_step ?_ | with_reducible refine D_step ?_ | with_reducible refine RO.exit ?_ | with_reducible refine RO.ret ?_ | ((with_reducible refine And.intro ?sc ?_); case sc => exact side))
          intro c2 hc2
          repeat ((conv => whnf); first | with_reducible refine O_step ?_ | with_reducible refine S_step ?_ | with_reducible refine D_step ?_ | with_reducible refine RO.exit ?_ | with_reducible refine RO.ret ?_ | ((with_reducible refine And.intro ?sc ?_); case sc => exact side))
          refine RO.same (i + 1, 0, g + 1, c2, ys ++ e4 n L[i]) ⟨by omega, by decide, by simp only [List.length_append]; omega, by simp only [List.length_append]; omega, by rw [h5, List.append_assoc]⟩ (show L.length - (i + 1) < L.length - i by omega) (And.intro rfl (And.intro ?_ (And.intro rfl (And.intro ?_ trivial)))) (And.intro rfl (And.intro rfl (And.intro rfl (trivial))))
          · show AV.sl 2 (g + 1) 0 (ys.length + 4) c2 = AV.sl 2 (g + 1) 0 (ys ++ e4 n L[i]).length c2
            rw [List.length_append]; rfl
          · show AV.int .i64 ((i : Int) + 1) = AV.int .i64 ((i + 1 : Nat) : Int)
            push_cast; rfl
      · skip
        repeat ((conv => whnf); first | with_reducible refine O_step ?_ | with_reducible refine S_step ?_ | with_reducible refine D_step ?_ | with_reducible refine RO.exit ?_ | with_reducible refine RO.ret ?_ | ((with_reducible refine And.intro ?sc ?_); case sc => exact side))
        intro zs hzs
        have hz : zs = e4 n L[i] := by
          rw [hzs]
          have e := e4_of h2 hxi
          rw [← hgd] at e ⊢
          exact e
        subst hz
        have he4 : (e4 n L[i]).length = 4 := rfl
        rw [if_neg (by simp only [decide_eq_false_iff_not] at hB; exact fun h => hB h.1.2), hgd] at h5
        repeat ((conv => whnf); first | with_reducible refine O_step ?_ | with_reducible refine S_step ?_ | with_reducible refine D_step ?_ | with_reducible refine RO.exit ?_ | with_reducible refine RO.ret ?_ | ((with_reducible refine And.intro ?sc ?_); case sc => exact side))
        intro c2 hc2
        repeat ((conv => whnf); first | with_reducible refine O_step ?_ | with_reducible refine S_step ?_ | with_reducible refine D_step ?_ | with_reducible refine RO.exit ?_ | with_reducible refine RO.ret ?_ | ((with_reducible refine And.intro ?sc ?_); case sc => exact side))
        refine RO.same (i + 1, 0, g + 1, c2, ys ++ e4 n L[i]) ⟨by omega, by decide, by simp only [List.length_append]; omega, by simp only [List.length_append]; omega, by rw [h5, List.append_assoc]⟩ (show L.length - (i + 1) < L.length - i by omega) (And.intro rfl (And.intro ?_ (And.intro rfl (And.intro ?_ trivial)))) (And.intro rfl (And.intro rfl (And.intro rfl (trivial))))
        · show AV.sl 2 (g + 1) 0 (ys.length + 4) c2 = AV.sl 2 (g + 1) 0 (ys ++ e4 n L[i]).length c2
          rw [List.length_append]; rfl
        · show AV.int .i64 ((i : Int) + 1) = AV.int .i64 ((i + 1 : Nat) : Int)
          push_cast; rfl
    · simp only [decide_eq_false_iff_not] at hA
      repeat ((conv => whnf); first | with_reducible refine O_step ?_ | with_reducible refine S_step ?_ | with_reducible refine D_step ?_ | with_reducible refine RO.exit ?_ | with_reducible refine RO.ret ?_ | ((with_reducible refine And.intro ?sc ?_); case sc => exact side))
      intro zs hzs
      have hz : zs = e4 n L[i] := by
        rw [hzs]
        have e := e4_of h2 hxi
        rw [← hgd] at e ⊢
        exact e
      subst hz
      have he4 : (e4 n L[i]).length = 4 := rfl
      rw [if_neg (by omega), hgd] at h5
      repeat ((conv => whnf); first | with_reducible refine O_step ?_ | with_reducible refine S_step ?_ | with_reducible refine D_step ?_ | with_reducible refine RO.exit ?_ | with_reducible refine RO.ret ?_ | ((with_reducible refine And.intro ?sc ?_); case sc => exact side))
      intro c2 hc2
      repeat ((conv => whnf); first | with_reducible refine O_step ?_ | with_reducible refine S_step ?_ | with_reducible refine D_step ?_ | with_reducible refine RO.exit ?_ | with_reducible refine RO.ret ?_ | ((with_reducible refine And.intro ?sc ?_); case sc => exact side))
      refine RO.same (i + 1, 0, g + 1, c2, ys ++ e4 n L[i]) ⟨by omega, by decide, by simp only [List.length_append]; omega, by simp only [List.length_append]; omega, by rw [h5, List.append_assoc]⟩ (show L.length - (i + 1) < L.length - i by omega) (And.intro rfl (And.intro ?_ (And.intro rfl (And.intro ?_ trivial)))) (And.intro rfl (And.intro rfl (And.intro rfl (trivial))))
      · show AV.sl 2 (g + 1) 0 (ys.length + 4) c2 = AV.sl 2 (g + 1) 0 (ys ++ e4 n L[i]).length c2
        rw [List.length_append]; rfl
      · show AV.int .i64 ((i : Int) + 1) = AV.int .i64 ((i + 1 : Nat) : Int)
        push_cast; rfl
  · simp only [decide_eq_false_iff_not] at hc
    have hi : i = L.length := by omega
    have e : ys = encF xs := by rw [h5, hi, List.drop_length]; simp [encG]
    subst e
    repeat ((conv => whnf); first | with_reducible refine O_step ?_ | with_reducible refine S_step ?_ | with_reducible refine D_step ?_ | with_reducible refine RO.exit ?_ | with_reducible refine RO.ret ?_ | ((with_reducible refine And.intro ?sc ?_); case sc => exact side))
    exact Exists.intro [AO.one false 0 (.ints .u32 xs c), AO.one true g1 (.ints .u32 L c1), AO.one true g (.ints .u8 (encF xs) cc)] (And.intro (And.intro rfl (And.intro rfl (And.intro rfl (trivial)))) (And.intro ⟨trivial, trivial, trivial, trivial⟩ (And.intro rfl ⟨g1, c1, g, cc, rfl, rfl, h3⟩)))
end Go.Proofs.Ytaioclggifdnhaa


set_option linter.unusedVariables false

set_option linter.unusedSimpArgs false

open Go.RowKit

namespace Go.Proofs.Ytaioclggifdnhaa

set_option maxRecDepth 10000

theorem and24 {x : Int} (hx : 0 ≤ x ∧ x < 4294967296) : bitF .and .u32 x 16777215 = x % 16777216 := by
  obtain ⟨n, rfl⟩ := Int.eq_ofNat_of_zero_le hx.1
  show IntKind.wrap .u32 (((BitVec.ofInt 32 (n : Int)) &&& (BitVec.ofInt 32 16777215)).toNat : Int) = _
  have e1 : n % 4294967296 &&& 16777215 = n % 4294967296 % 16777216 := Nat.and_two_pow_sub_one_eq_mod _ 24
  have e2 : (BitVec.ofInt 32 (n : Int)).toNat = n % 4294967296 := by rw [BitVec.toNat_ofInt]; omega
  rw [BitVec.toNat_and, e2, show (BitVec.ofInt 32 16777215).toNat = 16777215 from rfl, e1]
  simp [IntKind.wrap, IntKind.bits, IntKind.signed]
  omega
theorem and24_get {xs : List Int} {j : Nat} (h0 : ∀ x ∈ xs, 0 ≤ x ∧ x < 4294967296) (hj : j < xs.length) : bitF .and .u32 (xs.getD j 0) 16777215 = (cutL xs).getD j 0 := by
  have e : xs.getD j 0 = xs[j] := by simp [List.getD_eq_getElem?_getD, hj]
  rw [e, and24 (h0 _ (List.getElem_mem hj))]
  simp [cutL, List.getD_eq_getElem?_getD, hj]
theorem e4_sh {n : Nat} {x : Int} (h1 : 1 ≤ n) (hn : n ≤ 256) (hx : 0 ≤ x ∧ x < 16777216) : List.take 4 (List.drop 0 [((n : Int) - 1) % 256, shrF .u32 x 16 % 256, shrF .u32 x 8 % 256, x % 256]) = e4 (n - 1) x := by
  have a1 : shrF .u32 x 16 = x / 65536 := Int.fdiv_eq_ediv_of_nonneg _ (by decide)
  have a2 : shrF .u32 x 8 = x / 256 := Int.fdiv_eq_ediv_of_nonneg _ (by decide)
  rw [a1, a2]
  show [_, _, _, _] = [_, _, _, _]
  rw [show ((n : Int) - 1) % 256 = ((n - 1 : Nat) : Int) by omega, show x / 65536 % 256 = x / 65536 by omega]
theorem nb_ofL {k : Nat} {lv : List (Nat × AV)} {d : Nat → Value} (h : nbL k lv = true) : ∀ t, (ofL lv d t).nb k = true := by
  intro t
  simp only [ofL]
  split
  · rename_i v hv
    exact nbL_get h hv
  · rfl

theorem encode_call {xs : List Int} {c0 c : Nat} (hx : xs.length ≤ 100000000) (h0 : ∀ x ∈ xs, 0 ≤ x ∧ x < 4294967296) {Kp} :
    CallA Try.prog 14 [.sl 0 0 0 xs.length c0] [.one false 0 (.ints .u32 xs c)]
      (fun r M => ∃ g' c', r = .sl 4 g' 0 (encF xs).length c' ∧ M = [.one false 0 (.ints .u32 xs c), .gone, .gone, .gone, .one true g' (.ints .u8 (encF xs) c')] ∧ (encF xs).length ≤ c') Kp := by
  refine CallA.post_sub ?_
  refine step14 (fun _ => [1]) [] rfl ?_
  repeat ((conv => whnf); first | with_reducible refine O_step ?_ | with_reducible refine S_step ?_ | with_reducible refine D_step ?_ | with_reducible refine RO.exit ?_ | with_reducible refine RO.ret ?_ | ((with_reducible refine And.intro ?sc ?_); case sc => exact side))
  refine step28 (fun _ => []) [] rfl ?_
  repeat ((conv => whnf); first | with_reducible refine O_step ?_ | with_reducible refine S_step ?_ | with_reducible refine D_step ?_ | with_reducible refine RO.exit ?_ | with_reducible refine RO.ret ?_ | ((with_reducible refine And.intro ?sc ?_); case sc => exact side))
  refine WO.range rfl rfl [(3, .ptr 1 0 0)] (And.intro rfl (trivial)) fun l fn df d => ?_
  refine step42 (fun _ => [0, 2]) [] rfl ?_
  repeat ((conv => whnf); first | with_reducible refine O_step ?_ | with_reducible refine S_step ?_ | with_reducible refine D_step ?_ | with_reducible refine RO.exit ?_ | with_reducible refine RO.ret ?_ | ((with_reducible refine And.intro ?sc ?_); case sc => exact side))
  have hL := cutL_length xs
  have hF : encF xs = encG 0 ((cutL xs).drop 0) := rfl
  refine WO.gov (σ := Nat × Nat × Nat × List Int) (fun (j, g, cc, ys) => j ≤ xs.length ∧ ys.length ≤ cc ∧ ys.length ≤ 4 * j ∧ encF xs = ys ++ encG 0 ((cutL xs).drop j)) (fun (j, _) => xs.length - j)
    (fun (j, g, cc, ys) => [(0, .fn (.yield l) [] []), (1, .ptr 2 0 0), (3, .int .i64 j)])
    (fun (j, g, cc, ys) => [.one false 0 (.ints .u32 xs c), .one true 0 (.cells [.sl 4 g 0 ys.length cc]), .one true 0 (.cells [.sl 0 0 0 xs.length c0]), .one true 0 (.loop l .ready none fn _ _ _ _ _ df), .one true g (.ints .u8 ys cc)]) (0, 0, 0, []) tb_ok mixed (by kernel_rfl)
    [(0, .fn (.yield l) [] []), (1, .ptr 2 0 0), (3, .int .i64 0)] _ ⟨Nat.zero_le _, Nat.zero_le _, Nat.zero_le _, hF⟩ (And.intro rfl (And.intro rfl (And.intro rfl (trivial)))) rfl (Vw.ghost (i := 1) (k := 0) (x := .ints .u8 [] 0) rfl rfl ⟨rfl, rfl⟩) (And.intro rfl (And.intro rfl (And.intro rfl (And.intro rfl (And.intro rfl (trivial)))))) (fun _ => rfl) (fun _ => rfl) (fun _ => ⟨trivial, rfl, rfl, ?_, trivial, trivial⟩) ?_
  · exact nb_ofL rfl
  rintro ⟨j, g, cc, ys⟩ ⟨h1, h2, h3, h4⟩ d2
  repeat ((conv => whnf); first | with_reducible refine O_step ?_ | with_reducible refine S_step ?_ | with_reducible refine D_step ?_ | with_reducible refine RO.exit ?_ | with_reducible refine RO.ret ?_ | ((with_reducible refine And.intro ?sc ?_); case sc => exact side))
  refine And.intro (fun hc => ?_) (fun hc => ?_)
  · simp only [decide_eq_true_eq] at hc
    have hj : j < xs.length := by omega
    have hjL : j < (cutL xs).length := by omega
    have hxj := h0 _ (List.getElem_mem hj)
    repeat ((conv => whnf); first | with_reducible refine O_step ?_ | with_reducible refine S_step ?_ | with_reducible refine D_step ?_ | with_reducible refine RO.exit ?_ | with_reducible refine RO.ret ?_ | ((with_reducible refine And.intro ?sc ?_); case sc => exact side))
    refine WO.go (σ := Nat) (fun n => 1 ≤ n ∧ n ≤ 256 ∧ j + n ≤ xs.length ∧ encG 0 ((cutL xs).drop j) = encG (n - 1) ((cutL xs).drop (j + n - 1)) ∧ (cutL xs).getD (j + n - 1) 0 = (cutL xs)[j]) (fun n => 256 - n)
      (fun n => [(0, .fn (.yield l) [] []), (1, .ptr 2 0 0), (3, .int .i64 j), (4, .int .i64 n), (5, .int .u32 (cutL xs)[j])]) (fun _ => _) 1 tb_ok mixed (by kernel_rfl)
      ⟨Nat.le_refl _, by decide, by omega, rfl, by simp [List.getD_eq_getElem?_getD, hjL]⟩ (And.intro rfl (And.intro rfl (And.intro rfl (And.intro rfl (And.intro ?_ trivial))))) (subA_refl _) (fun _ => rfl) (fun _ => rfl) (fun _ => ⟨trivial, rfl, rfl, nb_ofL rfl, trivial, trivial⟩) ?_
    · show AV.int .u32 (bitF .and .u32 (xs.getD j 0) 16777215) = _
      rw [and24_get h0 hj]; simp [List.getD_eq_getElem?_getD, hjL]
    rintro n ⟨b1, b2, b3, b4, b5⟩ d3
    repeat ((conv => whnf); first | with_reducible refine O_step ?_ | with_reducible refine S_step ?_ | with_reducible refine D_step ?_ | with_reducible refine RO.exit ?_ | with_reducible refine RO.ret ?_ | ((with_reducible refine And.intro ?sc ?_); case sc => exact side))
    have st := encG_drop (l := cutL xs) (i := j + n - 1) (n - 1) (by omega)
    rw [show j + n - 1 + 1 = j + n by omega, show n - 1 + 1 = n by omega, b5] at st
    refine And.intro (fun hA => ?_) (fun hA => ?_)
    · simp only [decide_eq_true_eq] at hA
      repeat ((conv => whnf); first | with_reducible refine O_step ?_ | with_reducible refine S_step ?_ | with_reducible refine D_step ?_ | with_reducible refine RO.exit ?_ | with_reducible refine RO.ret ?_ | ((with_reducible refine And.intro ?sc ?_); case sc => exact side))
      refine And.intro (fun hB => ?_) (fun hB => ?_)
      · have hB' : (j : Int) + n < xs.length := of_decide_eq_true hB
        have hq := and24_get h0 (j := j + n) (by omega)
        repeat ((conv => whnf); first | with_reducible refine O_step ?_ | with_reducible refine S_step ?_ | with_reducible refine D_step ?_ | with_reducible refine RO.exit ?_ | with_reducible refine RO.ret ?_ | ((with_reducible refine And.intro ?sc ?_); case sc => exact side))
        refine And.intro (fun hC => ?_) (fun hC => ?_)
        · have hC' : (cutL xs).getD (j + n) 0 = (cutL xs)[j] := by rw [← hq]; exact of_decide_eq_true hC
          rw [if_pos ⟨⟨by omega, hC'⟩, by omega⟩] at st
          repeat ((conv => whnf); first | with_reducible refine O_step ?_ | with_reducible refine S_step ?_ | with_reducible refine D_step ?_ | with_reducible refine RO.exit ?_ | with_reducible refine RO.ret ?_ | ((with_reducible refine And.intro ?sc ?_); case sc => exact side))
          refine RO.same (n + 1) ⟨by omega, by omega, by omega, ?_, ?_⟩ (show 256 - (n + 1) < 256 - n by omega) (And.intro rfl (And.intro rfl (And.intro rfl (And.intro ?_ (And.intro rfl trivial))))) (subA_refl _)
          · rw [b4, st]; rfl
          · exact hC'
          · show AV.int .i64 ((n : Int) + 1) = AV.int .i64 ((n + 1 : Nat) : Int)
            push_cast; rfl
        · have hC' : ¬ (cutL xs).getD (j + n) 0 = (cutL xs)[j] := by rw [← hq]; exact of_decide_eq_false hC
          repeat ((conv => whnf); first | with_reducible refine O_step ?_ | with_reducible refine S_step ?_ | with_reducible refine D_step ?_ | with_reducible refine RO.exit ?_ | with_reducible refine RO.ret ?_ | ((with_reducible refine And.intro ?sc ?_); case sc => exact side))
          refine YieldA.round (x := { cx14 (fun _ => [1]) [] with r := some l }) tb_ok mixed (i := 3) rfl (by kernel_rfl) rfl rfl ?_
          repeat ((conv => whnf); first | with_reducible refine O_step ?_ | with_reducible refine S_step ?_ | with_reducible refine D_step ?_ | with_reducible refine RO.exit ?_ | with_reducible refine RO.ret ?_ | ((with_reducible refine And.intro ?sc ?_); case sc => exact side))
          intro zs hzs
          have hz : zs = e4 (n - 1) (cutL xs)[j] := by rw [hzs]; exact e4_sh b1 b2 (cutL_bound _ (List.getElem_mem hjL))
          subst hz
          have he4 : (e4 (n - 1) (cutL xs)[j]).length = 4 := rfl
          have fin : encG 0 ((cutL xs).drop j) = e4 (n - 1) (cutL xs)[j] ++ encG 0 ((cutL xs).drop (j + n)) := by rw [b4, st, if_neg (by exact fun h => hC' h.1.2)]
          repeat ((conv => whnf); first | with_reducible refine O_step ?_ | with_reducible refine S_step ?_ | with_reducible refine D_step ?_ | with_reducible refine RO.exit ?_ | with_reducible refine RO.ret ?_ | ((with_reducible refine And.intro ?sc ?_); case sc => exact side))
          intro c2 hc2
          repeat ((conv => whnf); first | with_reducible refine O_step ?_ | with_reducible refine S_step ?_ | with_reducible refine D_step ?_ | with_reducible refine RO.exit ?_ | with_reducible refine RO.ret ?_ | ((with_reducible refine And.intro ?sc ?_); case sc => exact side))
          refine RO.same (j + n, g + 1, c2, ys ++ e4 (n - 1) (cutL xs)[j]) ⟨by omega, by simp only [List.length_append]; omega, by simp only [List.length_append]; omega, by rw [h4, fin, List.append_assoc]⟩ (show xs.length - (j + n) < xs.length - j by omega) (And.intro rfl (And.intro rfl (And.intro ?_ trivial))) (And.intro rfl (And.intro ?_ (And.intro rfl (And.intro rfl (And.intro rfl trivial)))))
          · show AV.int .i64 ((j : Int) + n) = AV.int .i64 ((j + n : Nat) : Int)
            push_cast; rfl
          · show AO.one true 0 (.cells [.sl 4 (g + 1) 0 (ys ++ e4 (n - 1) (cutL xs)[j]).length c2]) = AO.one true 0 (.cells [.sl 4 (g + 1) 0 (ys.length + 4) c2])
            rw [List.length_append]; rfl
      · have hB' : ¬ (j : Int) + n < xs.length := of_decide_eq_false hB
        repeat ((conv => whnf); first | with_reducible refine O_step ?_ | with_reducible refine S_step ?_ | with_reducible refine D_step ?_ | with_reducible refine RO.exit ?_ | with_reducible refine RO.ret ?_ | ((with_reducible refine And.intro ?sc ?_); case sc => exact side))
        refine YieldA.round (x := { cx14 (fun _ => [1]) [] with r := some l }) tb_ok mixed (i := 3) rfl (by kernel_rfl) rfl rfl ?_
        repeat ((conv => whnf); first | with_reducible refine O_step ?_ | with_reducible refine S_step ?_ | with_reducible refine D_step ?_ | with_reducible refine RO.exit ?_ | with_reducible refine RO.ret ?_ | ((with_reducible refine And.intro ?sc ?_); case sc => exact side))
        intro zs hzs
        have hz : zs = e4 (n - 1) (cutL xs)[j] := by rw [hzs]; exact e4_sh b1 b2 (cutL_bound _ (List.getElem_mem hjL))
        subst hz
        have he4 : (e4 (n - 1) (cutL xs)[j]).length = 4 := rfl
        have fin : encG 0 ((cutL xs).drop j) = e4 (n - 1) (cutL xs)[j] ++ encG 0 ((cutL xs).drop (j + n)) := by rw [b4, st, if_neg (by omega)]
        repeat ((conv => whnf); first | with_reducible refine O_step ?_ | with_reducible refine S_step ?_ | with_reducible refine D_step ?_ | with_reducible refine RO.exit ?_ | with_reducible refine RO.ret ?_ | ((with_reducible refine And.intro ?sc ?_); case sc => exact side))
        intro c2 hc2
        repeat ((conv => whnf); first | with_reducible refine O_step ?_ | with_reducible refine S_step ?_ | with_reducible refine D_step ?_ | with_reducible refine RO.exit ?_ | with_reducible refine RO.ret ?_ | ((with_reducible refine And.intro ?sc ?_); case sc => exact side))
        refine RO.same (j + n, g + 1, c2, ys ++ e4 (n - 1) (cutL xs)[j]) ⟨by omega, by simp only [List.length_append]; omega, by simp only [List.length_append]; omega, by rw [h4, fin, List.append_assoc]⟩ (show xs.length - (j + n) < xs.length - j by omega) (And.intro rfl (And.intro rfl (And.intro ?_ trivial))) (And.intro rfl (And.intro ?_ (And.intro rfl (And.intro rfl (And.intro rfl trivial)))))
        · show AV.int .i64 ((j : Int) + n) = AV.int .i64 ((j + n : Nat) : Int)
          push_cast; rfl
        · show AO.one true 0 (.cells [.sl 4 (g + 1) 0 (ys ++ e4 (n - 1) (cutL xs)[j]).length c2]) = AO.one true 0 (.cells [.sl 4 (g + 1) 0 (ys.length + 4) c2])
          rw [List.length_append]; rfl
    · have hA' : ¬ (n : Int) < 256 := of_decide_eq_false hA
      repeat ((conv => whnf); first | with_reducible refine O_step ?_ | with_reducible refine S_step ?_ | with_reducible refine D_step ?_ | with_reducible refine RO.exit ?_ | with_reducible refine RO.ret ?_ | ((with_reducible refine And.intro ?sc ?_); case sc => exact side))
      refine YieldA.round (x := { cx14 (fun _ => [1]) [] with r := some l }) tb_ok mixed (i := 3) rfl (by kernel_rfl) rfl rfl ?_
      repeat ((conv => whnf); first | with_reducible refine O_step ?_ | with_reducible refine S_step ?_ | with_reducible refine D_step ?_ | with_reducible refine RO.exit ?_ | with_reducible refine RO.ret ?_ | ((with_reducible refine And.intro ?sc ?_); case sc => exact side))
      intro zs hzs
      have hz : zs = e4 (n - 1) (cutL xs)[j] := by rw [hzs]; exact e4_sh b1 b2 (cutL_bound _ (List.getElem_mem hjL))
      subst hz
      have he4 : (e4 (n - 1) (cutL xs)[j]).length = 4 := rfl
      have fin : encG 0 ((cutL xs).drop j) = e4 (n - 1) (cutL xs)[j] ++ encG 0 ((cutL xs).drop (j + n)) := by rw [b4, st, if_neg (by omega)]
      repeat ((conv => whnf); first | with_reducible refine O_step ?_ | with_reducible refine S_step ?_ | with_reducible refine D_step ?_ | with_reducible refine RO.exit ?_ | with_reducible refine RO.ret ?_ | ((with_reducible refine And.intro ?sc ?_); case sc => exact side))
      intro c2 hc2
      repeat ((conv => whnf); first | with_reducible refine O_step ?_ | with_reducible refine S_step ?_ | with_reducible refine D_step ?_ | with_reducible refine RO.exit ?_ | with_reducible refine RO.ret ?_ | ((with_reducible refine And.intro ?sc ?_); case sc => exact side))
      refine RO.same (j + n, g + 1, c2, ys ++ e4 (n - 1) (cutL xs)[j]) ⟨by omega, by simp only [List.length_append]; omega, by simp only [List.length_append]; omega, by rw [h4, fin, List.append_assoc]⟩ (show xs.length - (j + n) < xs.length - j by omega) (And.intro rfl (And.intro rfl (And.intro ?_ trivial))) (And.intro rfl (And.intro ?_ (And.intro rfl (And.intro rfl (And.intro rfl trivial)))))
      · show AV.int .i64 ((j : Int) + n) = AV.int .i64 ((j + n : Nat) : Int)
        push_cast; rfl
      · show AO.one true 0 (.cells [.sl 4 (g + 1) 0 (ys ++ e4 (n - 1) (cutL xs)[j]).length c2]) = AO.one true 0 (.cells [.sl 4 (g + 1) 0 (ys.length + 4) c2])
        rw [List.length_append]; rfl
  · simp only [decide_eq_false_iff_not] at hc
    have hi : j = (cutL xs).length := by omega
    have e : ys = encF xs := by rw [h4, hi, List.drop_length]; simp [encG]
    subst e
    repeat ((conv => whnf); first | with_reducible refine O_step ?_ | with_reducible refine S_step ?_ | with_reducible refine D_step ?_ | with_reducible refine RO.exit ?_ | with_reducible refine RO.ret ?_ | ((with_reducible refine And.intro ?sc ?_); case sc => exact side))
    refine Or.inl (And.intro rfl ?_)
    repeat ((conv => whnf); first | with_reducible refine O_step ?_ | with_reducible refine S_step ?_ | with_reducible refine D_step ?_ | with_reducible refine RO.exit ?_ | with_reducible refine RO.ret ?_ | ((with_reducible refine And.intro ?sc ?_); case sc => exact side))
    exact Exists.intro [.one false 0 (.ints .u32 xs c), .gone, .gone, .gone, .one true g (.ints .u8 (encF xs) cc)] (And.intro (And.intro rfl (And.intro trivial (And.intro trivial (And.intro trivial (And.intro rfl trivial))))) (And.intro ⟨trivial, trivial, trivial, trivial, trivial, trivial⟩ (And.intro rfl ⟨g, cc, rfl, rfl, h2⟩)))

theorem rencode_at {M : AH} {K Kp : AV → AH → Prop} {i g n c co : Nat} {o : Bool} {xs : List Int} (hi : M[i]? = some (.one o g (.ints .u32 xs co))) (hn : n = xs.length) (hx : xs.length ≤ 100000000) (h0 : ∀ x ∈ xs, 0 ≤ x ∧ x < 4294967296)
    (h : ∀ g1 c1 g' c', (encF xs).length ≤ c' → K (.sl (M.length + 1) g' 0 (encF xs).length c') (M ++ [.one true g1 (.ints .u32 (cutL xs) c1), .one true g' (.ints .u8 (encF xs) c')])) : CallA Try.prog 15 [.sl i g 0 n c] M K Kp := by
  subst hn
  refine CallA.lift [.win i g 0] (rencode_call (xs := xs) (c0 := c) (c := co) (Kp := fun _ _ => False) hx h0) rfl rfl ⟨⟨_, _, _, rfl, slot_one hi, WinC.same rfl (fun h => h)⟩, trivial⟩ ⟨trivial, trivial⟩ ?_ (fun _ _ h => h.elim)
  rintro r M' ⟨g1, c1, g', c', rfl, rfl, hc'⟩
  exact ⟨⟨rfl, rfl⟩, h g1 c1 g' c' hc'⟩
theorem encode_at {M : AH} {K Kp : AV → AH → Prop} {i g n c co : Nat} {o : Bool} {xs : List Int} (hi : M[i]? = some (.one o g (.ints .u32 xs co))) (hn : n = xs.length) (hx : xs.length ≤ 100000000) (h0 : ∀ x ∈ xs, 0 ≤ x ∧ x < 4294967296)
    (h : ∀ g' c', (encF xs).length ≤ c' → K (.sl (M.length + 3) g' 0 (encF xs).length c') (M ++ [.gone, .gone, .gone, .one true g' (.ints .u8 (encF xs) c')])) : CallA Try.prog 14 [.sl i g 0 n c] M K Kp := by
  subst hn
  refine CallA.lift [.win i g 0] (encode_call (xs := xs) (c0 := c) (c := co) (Kp := fun _ _ => False) hx h0) rfl rfl ⟨⟨_, _, _, rfl, slot_one hi, WinC.same rfl (fun h => h)⟩, trivial⟩ ⟨trivial, trivial⟩ ?_ (fun _ _ h => h.elim)
  rintro r M' ⟨g', c', rfl, rfl, hc'⟩
  exact ⟨⟨rfl, rfl⟩, h g' c' hc'⟩
end Go.Proofs.Ytaioclggifdnhaa


set_option linter.unusedVariables false

set_option linter.unusedSimpArgs false

open Go.RowKit

namespace Go.Proofs.Ytaioclggifdnhaa

set_option maxRecDepth 10000

/-- Runs, told one behind the other; n pixels are wanted. -/
def decG (n : Nat) : List Int → List Int → Option (List Int)
  | k :: x :: y :: z :: l, out => if out.length + (k.toNat + 1) ≤ n then decG n l (out ++ List.replicate (k.toNat + 1) (x * 65536 + y * 256 + z)) else none
  | [], out => if out.length = n then some out else none
  | _, _ => none
/-- Decode: the pixels and the error's number. -/
def decF (b : List Int) (n : Int) : List Int × Int :=
  if n < 0 ∨ n > 65536 then ([], 1) else match decG n.toNat b [] with
  | some l => (l, 0)
  | none => ([], 131)

theorem decG_short {n : Nat} {b out : List Int} (h : 0 < b.length) (h4 : b.length < 4) : decG n b out = none := by
  match b, h, h4 with
  | [_], _, _ => rfl
  | [_, _], _, _ => rfl
  | [_, _, _], _, _ => rfl
  | _ :: _ :: _ :: _ :: _, _, h4 => simp at h4; omega
theorem decG_step {n : Nat} {b out : List Int} {i : Nat} (h : i + 4 ≤ b.length) : decG n (b.drop i) out = if out.length + ((b.getD i 0).toNat + 1) ≤ n then decG n (b.drop (i + 4)) (out ++ List.replicate ((b.getD i 0).toNat + 1) (b.getD (i + 1) 0 * 65536 + b.getD (i + 2) 0 * 256 + b.getD (i + 3) 0)) else none := by
  rw [List.drop_eq_getElem_cons (by omega), List.drop_eq_getElem_cons (by omega), List.drop_eq_getElem_cons (i := i + 1 + 1) (by omega), List.drop_eq_getElem_cons (i := i + 1 + 1 + 1) (by omega)]
  simp only [decG]
  have g : ∀ k, (hk : k < b.length) → b.getD k 0 = b[k] := fun k hk => by simp [List.getD_eq_getElem?_getD, hk]
  rw [g i (by omega), g (i + 1) (by omega), g (i + 2) (by omega), g (i + 3) (by omega)]
/-- Bytes that are no whole runs. -/
theorem decG_mod {n : Nat} : ∀ (b out : List Int), b.length % 4 ≠ 0 → decG n b out = none
  | [], _, h => by simp at h
  | [_], _, _ => rfl
  | [_, _], _, _ => rfl
  | [_, _, _], _, _ => rfl
  | _ :: _ :: _ :: _ :: l, out, h => by
    simp only [decG]
    split
    · exact decG_mod l _ (by simp only [List.length_cons] at h; omega)
    · rfl
theorem decG_length {n : Nat} : ∀ (b out l : List Int), decG n b out = some l → l.length = n
  | [], out, l, h => by
    simp only [decG] at h
    split at h
    · cases h; assumption
    · cases h
  | [_], _, _, h => by cases h
  | [_, _], _, _, h => by cases h
  | [_, _, _], _, _, h => by cases h
  | _ :: _ :: _ :: _ :: b, out, l, h => by
    simp only [decG] at h
    split at h
    · exact decG_length b _ l h
    · cases h
end Go.Proofs.Ytaioclggifdnhaa


set_option linter.unusedVariables false

set_option linter.unusedSimpArgs false

open Go.RowKit

namespace Go.Proofs.Ytaioclggifdnhaa

set_option maxRecDepth 10000

theorem rdecode_call {b : List Int} {c0 c : Nat} {n : Int} (hb : b.length ≤ 1000000) (h0 : ∀ x ∈ b, 0 ≤ x ∧ x < 256) {Kp} :
    CallA Try.prog 19 [.sl 0 0 0 b.length c0, .int .i64 n] [.one false 0 (.ints .u8 b c)]
      (fun r M => (∃ l g' c', decF b n = (l, 0) ∧ r = .tup [.sl 1 g' 0 l.length c', .int .i64 0] ∧ M = [.one false 0 (.ints .u8 b c), .one true g' (.ints .u32 l c')] ∧ l.length ≤ c') ∨
        (∃ e, e ≠ 0 ∧ decF b n = ([], e) ∧ r = .tup [.ns, .int .i64 e] ∧ (M = [.one false 0 (.ints .u8 b c)] ∨ M = [.one false 0 (.ints .u8 b c), .gone]))) Kp := by
  refine CallA.post_sub ?_
  refine step19 (fun _ => [0]) [] rfl ?_
  repeat ((conv => whnf); first | with_reducible refine O_step ?_ | with_reducible refine S_step ?_ | with_reducible refine D_step ?_ | with_reducible refine RO.exit ?_ | with_reducible refine RO.ret ?_ | ((with_reducible refine And.intro ?sc ?_); case sc => exact side))
  refine And.intro (fun hA => ?_) (fun hA => ?_)
  · have hA' : n < 0 := of_decide_eq_true hA
    repeat ((conv => whnf); first | with_reducible refine O_step ?_ | with_reducible refine S_step ?_ | with_reducible refine D_step ?_ | with_reducible refine RO.exit ?_ | with_reducible refine RO.ret ?_ | ((with_reducible refine And.intro ?sc ?_); case sc => exact side))
    exact Exists.intro [AO.one false 0 (.ints .u8 b c)] (And.intro (And.intro rfl (trivial)) (And.intro ⟨trivial, trivial⟩ (And.intro rfl (Or.inr ⟨1, by decide, by rw [decF, if_pos (by omega)], rfl, Or.inl rfl⟩))))
  · have hA' : ¬ n < 0 := of_decide_eq_false hA
    repeat ((conv => whnf); first | with_reducible refine O_step ?_ | with_reducible refine S_step ?_ | with_reducible refine D_step ?_ | with_reducible refine RO.exit ?_ | with_reducible refine RO.ret ?_ | ((with_reducible refine And.intro ?sc ?_); case sc => exact side))
    refine And.intro (fun hB => ?_) (fun hB => ?_)
    · have hB' : n > 65536 := of_decide_eq_true hB
      repeat ((conv => whnf); first | with_reducible refine O_step ?_ | with_reducible refine S_step ?_ | with_reducible refine D_step ?_ | with_reducible refine RO.exit ?_ | with_reducible refine RO.ret ?_ | ((with_reducible refine And.intro ?sc ?_); case sc => exact side))
      exact Exists.intro [AO.one false 0 (.ints .u8 b c)] (And.intro (And.intro rfl (trivial)) (And.intro ⟨trivial, trivial⟩ (And.intro rfl (Or.inr ⟨1, by decide, by rw [decF, if_pos (by omega)], rfl, Or.inl rfl⟩))))
    · have hB' : ¬ n > 65536 := of_decide_eq_false hB
      obtain ⟨N, rfl⟩ : ∃ N : Nat, n = N := ⟨n.toNat, by omega⟩
      have hF : decF b N = match decG N b [] with | some l => (l, 0) | none => ([], 131) := by
        rw [decF, if_neg (by omega)]; rfl
      have bad : decG N b [] = none → decF b N = ([], 131) := fun h => by rw [hF, h]
      repeat ((conv => whnf); first | with_reducible refine O_step ?_ | with_reducible refine S_step ?_ | with_reducible refine D_step ?_ | with_reducible refine RO.exit ?_ | with_reducible refine RO.ret ?_ | ((with_reducible refine And.intro ?sc ?_); case sc => exact side))
      refine WO.gov (σ := Nat × Nat × Nat × List Int) (fun (i, g, cc, ys) => i ≤ b.length ∧ ys.length ≤ cc ∧ ys.length ≤ N ∧ decG N b [] = decG N (b.drop i) ys) (fun (i, _) => b.length - i)
        (fun (i, g, cc, ys) => [(0, .sl 0 0 0 b.length c0), (1, .int .i64 N), (6, .sl 1 g 0 ys.length cc), (7, .int .i64 i)])
        (fun (i, g, cc, ys) => [.one false 0 (.ints .u8 b c), .one true g (.ints .u32 ys cc)]) (0, 0, 0, []) tb_ok mixed (by kernel_rfl)
        [(0, .sl 0 0 0 b.length c0), (1, .int .i64 N), (6, .ns), (7, .int .i64 0)] _ ⟨Nat.zero_le _, Nat.zero_le _, Nat.zero_le _, rfl⟩ (And.intro rfl (And.intro rfl (And.intro rfl (And.intro rfl (trivial))))) rfl (Vw.nils (x := .ints .u32 [] 0) ⟨rfl, rfl⟩ ?_) (And.intro rfl (And.intro rfl (trivial))) (fun _ => rfl) (fun _ => rfl) (fun _ => ⟨trivial, trivial, trivial⟩) ?_
      · exact And.intro (.inl rfl) (And.intro (.inl rfl) (And.intro (.inr ⟨rfl, rfl⟩) (And.intro (.inl rfl) trivial)))
      rintro ⟨i, g, cc, ys⟩ ⟨h1, h2, h3, h4⟩ d
      repeat ((conv => whnf); first | with_reducible refine O_step ?_ | with_reducible refine S_step ?_ | with_reducible refine D_step ?_ | with_reducible refine RO.exit ?_ | with_reducible refine RO.ret ?_ | ((with_reducible refine And.intro ?sc ?_); case sc => exact side))
      refine And.intro (fun hc => ?_) (fun hc => ?_)
      · have hc' : (i : Int) < b.length := of_decide_eq_true hc
        repeat ((conv => whnf); first | with_reducible refine O_step ?_ | with_reducible refine S_step ?_ | with_reducible refine D_step ?_ | with_reducible refine RO.exit ?_ | with_reducible refine RO.ret ?_ | ((with_reducible refine And.intro ?sc ?_); case sc => exact side))
        refine And.intro (fun hD => ?_) (fun hD => ?_)
        · have hD' : (b.length : Int) - i < 4 := of_decide_eq_true hD
          repeat ((conv => whnf); first | with_reducible refine O_step ?_ | with_reducible refine S_step ?_ | with_reducible refine D_step ?_ | with_reducible refine RO.exit ?_ | with_reducible refine RO.ret ?_ | ((with_reducible refine And.intro ?sc ?_); case sc => exact side))
          exact Exists.intro [AO.one false 0 (.ints .u8 b c), .gone] (And.intro (And.intro rfl (And.intro trivial trivial)) (And.intro ⟨trivial, trivial, trivial⟩ (And.intro rfl (Or.inr ⟨131, by decide, bad (by rw [h4, decG_short (by simp; omega) (by simp; omega)]), rfl, Or.inr rfl⟩))))
        · have hD' : ¬ (b.length : Int) - i < 4 := of_decide_eq_false hD
          have hs := decG_step (n := N) (b := b) (out := ys) (i := i) (by omega)
          obtain ⟨X, hX⟩ : ∃ X, X = b.getD (i + 1) 0 * 65536 + b.getD (i + 2) 0 * 256 + b.getD (i + 3) 0 := ⟨_, rfl⟩
          rw [← hX] at hs
          have gb : ∀ k, k < b.length → 0 ≤ b.getD k 0 ∧ b.getD k 0 < 256 := fun k hk => by
            have e : b.getD k 0 = b[k] := by simp [List.getD_eq_getElem?_getD, hk]
            rw [e]; exact h0 _ (List.getElem_mem hk)
          have v0 := gb i (by omega)
          have v1 := gb (i + 1) (by omega)
          have v2 := gb (i + 2) (by omega)
          have v3 := gb (i + 3) (by omega)
          have w0 : 0 ≤ b.getD ((i : Int).toNat + 0) 0 ∧ b.getD ((i : Int).toNat + 0) 0 < 256 := v0
          have w1 : 0 ≤ b.getD (((i : Int) + 1).toNat + 0) 0 ∧ b.getD (((i : Int) + 1).toNat + 0) 0 < 256 := v1
          have w2 : 0 ≤ b.getD (((i : Int) + 2).toNat + 0) 0 ∧ b.getD (((i : Int) + 2).toNat + 0) 0 < 256 := v2
          have w3 : 0 ≤ b.getD (((i : Int) + 3).toNat + 0) 0 ∧ b.getD (((i : Int) + 3).toNat + 0) 0 < 256 := v3
          repeat ((conv => whnf); first | with_reducible refine O_step ?_ | with_reducible refine S_step ?_ | with_reducible refine D_step ?_ | with_reducible refine RO.exit ?_ | with_reducible refine RO.ret ?_ | ((with_reducible refine And.intro ?sc ?_); case sc => exact side))
          refine WO.go (σ := Nat × Nat × Nat × List Int) (fun (k, g2, cc2, zs) => (k : Int) ≤ b.getD i 0 + 1 ∧ zs.length ≤ cc2 ∧ zs.length ≤ N ∧ zs = ys ++ List.replicate k X) (fun (k, _) => (b.getD i 0).toNat + 1 - k)
            (fun (k, g2, cc2, zs) => [(0, .sl 0 0 0 b.length c0), (1, .int .i64 N), (6, .sl 1 g2 0 zs.length cc2), (7, .int .i64 i), (8, .int .i64 k)])
            (fun (k, g2, cc2, zs) => [.one false 0 (.ints .u8 b c), .one true g2 (.ints .u32 zs cc2)]) (0, g, cc, ys) tb_ok mixed (by kernel_rfl)
            ⟨by omega, h2, h3, by simp⟩ (And.intro rfl (And.intro rfl (And.intro rfl (And.intro rfl (And.intro rfl (trivial)))))) (And.intro rfl (And.intro rfl (trivial))) (fun _ => rfl) (fun _ => rfl) (fun _ => ⟨trivial, trivial, trivial⟩) ?_
          rintro ⟨k, g2, cc2, zs⟩ ⟨k1, k2, k3, k4⟩ d2
          have kl : zs.length = ys.length + k := by rw [k4]; simp
          repeat ((conv => whnf); first | with_reducible refine O_step ?_ | with_reducible refine S_step ?_ | with_reducible refine D_step ?_ | with_reducible refine RO.exit ?_ | with_reducible refine RO.ret ?_ | ((with_reducible refine And.intro ?sc ?_); case sc => exact side))
          refine And.intro (fun hE => ?_) (fun hE => ?_)
          · have hE' : (k : Int) ≤ b.getD i 0 := of_decide_eq_true hE
            repeat ((conv => whnf); first | with_reducible refine O_step ?_ | with_reducible refine S_step ?_ | with_reducible refine D_step ?_ | with_reducible refine RO.exit ?_ | with_reducible refine RO.ret ?_ | ((with_reducible refine And.intro ?sc ?_); case sc => exact side))
            refine And.intro (fun hG => ?_) (fun hG => ?_)
            · have hG' : (zs.length : Int) = N := of_decide_eq_true hG
              repeat ((conv => whnf); first | with_reducible refine O_step ?_ | with_reducible refine S_step ?_ | with_reducible refine D_step ?_ | with_reducible refine RO.exit ?_ | with_reducible refine RO.ret ?_ | ((with_reducible refine And.intro ?sc ?_); case sc => exact side))
              exact Exists.intro [AO.one false 0 (.ints .u8 b c), .gone] (And.intro (And.intro rfl (And.intro trivial trivial)) (And.intro ⟨trivial, trivial, trivial⟩ (And.intro rfl (Or.inr ⟨131, by decide, bad (by rw [h4, hs, if_neg (by omega)]), rfl, Or.inr rfl⟩))))
            · have hG' : ¬ (zs.length : Int) = N := of_decide_eq_false hG
              repeat ((conv => whnf); first | with_reducible refine O_step ?_ | with_reducible refine S_step ?_ | with_reducible refine D_step ?_ | with_reducible refine RO.exit ?_ | with_reducible refine RO.ret ?_ | ((with_reducible refine And.intro ?sc ?_); case sc => exact side))
              intro ws hws
              have hw : ws = [X] := by
                rw [hws, hX]
                have e : ((b.getD (i + 1) 0 % 4294967296 * 65536 % 4294967296 + b.getD (i + 2) 0 % 4294967296 * 256 % 4294967296) % 4294967296 + b.getD (i + 3) 0 % 4294967296) % 4294967296 = b.getD (i + 1) 0 * 65536 + b.getD (i + 2) 0 * 256 + b.getD (i + 3) 0 := by omega
                exact congrArg (fun z => [z]) e
              subst hw
              repeat ((conv => whnf); first | with_reducible refine O_step ?_ | with_reducible refine S_step ?_ | with_reducible refine D_step ?_ | with_reducible refine RO.exit ?_ | with_reducible refine RO.ret ?_ | ((with_reducible refine And.intro ?sc ?_); case sc => exact side))
              intro c2 hc2
              repeat ((conv => whnf); first | with_reducible refine O_step ?_ | with_reducible refine S_step ?_ | with_reducible refine D_step ?_ | with_reducible refine RO.exit ?_ | with_reducible refine RO.ret ?_ | ((with_reducible refine And.intro ?sc ?_); case sc => exact side))
              refine RO.same (k + 1, g2 + 1, c2, zs ++ [X]) ⟨by omega, by simp only [List.length_append]; exact hc2, by simp only [List.length_append, List.length_singleton]; omega, by rw [k4, List.replicate_succ', List.append_assoc]⟩ (show (b.getD i 0).toNat + 1 - (k + 1) < (b.getD i 0).toNat + 1 - k by omega) (And.intro rfl (And.intro rfl (And.intro ?_ (And.intro rfl (And.intro ?_ trivial))))) (And.intro rfl (And.intro rfl (trivial)))
              · show AV.sl 1 (g2 + 1) 0 (zs.length + 1) c2 = AV.sl 1 (g2 + 1) 0 (zs ++ [X]).length c2
                rw [List.length_append]; rfl
              · show AV.int .i64 ((k : Int) + 1) = AV.int .i64 ((k + 1 : Nat) : Int)
                push_cast; rfl
          · have hE' : ¬ (k : Int) ≤ b.getD i 0 := of_decide_eq_false hE
            have hk : k = (b.getD i 0).toNat + 1 := by omega
            rw [if_pos (by omega), ← hk, ← k4] at hs
            repeat ((conv => whnf); first | with_reducible refine O_step ?_ | with_reducible refine S_step ?_ | with_reducible refine D_step ?_ | with_reducible refine RO.exit ?_ | with_reducible refine RO.ret ?_ | ((with_reducible refine And.intro ?sc ?_); case sc => exact side))
            refine RO.same (i + 4, g2, cc2, zs) ⟨by omega, k2, k3, by rw [h4, hs]⟩ (show b.length - (i + 4) < b.length - i by omega) (And.intro rfl (And.intro rfl (And.intro rfl (And.intro ?_ trivial)))) (And.intro rfl (And.intro rfl (trivial)))
            show AV.int .i64 ((i : Int) + 4) = AV.int .i64 ((i + 4 : Nat) : Int)
            push_cast; rfl
      · have hc' : ¬ (i : Int) < b.length := of_decide_eq_false hc
        obtain rfl : i = b.length := by omega
        rw [List.drop_length] at h4
        simp only [decG] at h4
        repeat ((conv => whnf); first | with_reducible refine O_step ?_ | with_reducible refine S_step ?_ | with_reducible refine D_step ?_ | with_reducible refine RO.exit ?_ | with_reducible refine RO.ret ?_ | ((with_reducible refine And.intro ?sc ?_); case sc => exact side))
        refine And.intro (fun hD => ?_) (fun hD => ?_)
        · have hD' : ¬ ys.length = N := by have := hD; simp only [Bool.not_eq_true', Bool.not_eq_false', decide_eq_true_eq, decide_eq_false_iff_not] at this; omega
          rw [if_neg hD'] at h4
          repeat ((conv => whnf); first | with_reducible refine O_step ?_ | with_reducible refine S_step ?_ | with_reducible refine D_step ?_ | with_reducible refine RO.exit ?_ | with_reducible refine RO.ret ?_ | ((with_reducible refine And.intro ?sc ?_); case sc => exact side))
          exact Exists.intro [AO.one false 0 (.ints .u8 b c), .gone] (And.intro (And.intro rfl (And.intro trivial trivial)) (And.intro ⟨trivial, trivial, trivial⟩ (And.intro rfl (Or.inr ⟨131, by decide, bad h4, rfl, Or.inr rfl⟩))))
        · have hD' : ys.length = N := by have := hD; simp only [Bool.not_eq_true', Bool.not_eq_false', decide_eq_true_eq, decide_eq_false_iff_not] at this; omega
          rw [if_pos hD'] at h4
          repeat ((conv => whnf); first | with_reducible refine O_step ?_ | with_reducible refine S_step ?_ | with_reducible refine D_step ?_ | with_reducible refine RO.exit ?_ | with_reducible refine RO.ret ?_ | ((with_reducible refine And.intro ?sc ?_); case sc => exact side))
          exact Exists.intro [AO.one false 0 (.ints .u8 b c), .one true g (.ints .u32 ys cc)] (And.intro (And.intro rfl (And.intro rfl (trivial))) (And.intro ⟨trivial, trivial, trivial⟩ (And.intro rfl (Or.inl ⟨ys, g, cc, by rw [hF, h4], rfl, rfl, h2⟩))))

theorem rdecode_at {M : AH} {K Kp : AV → AH → Prop} {i g m c co : Nat} {o : Bool} {b : List Int} {n : Int} (hi : M[i]? = some (.one o g (.ints .u8 b co))) (hm : m = b.length) (hb : b.length ≤ 1000000) (h0 : ∀ x ∈ b, 0 ≤ x ∧ x < 256)
    (h : ∀ l g' c', decF b n = (l, 0) → l.length ≤ c' → K (.tup [.sl M.length g' 0 l.length c', .int .i64 0]) (M ++ [.one true g' (.ints .u32 l c')]))
    (h1 : ∀ e, e ≠ 0 → decF b n = ([], e) → K (.tup [.ns, .int .i64 e]) M) : CallA Try.prog 19 [.sl i g 0 m c, .int .i64 n] M K Kp := by
  subst hm
  have hc : CallA Try.prog 19 [.sl 0 0 0 b.length c, .int .i64 n] [.one false 0 (.ints .u8 b co)]
      (fun r M => (∃ l g' c', decF b n = (l, 0) ∧ r = .tup [.sl 1 g' 0 l.length c', .int .i64 0] ∧ M = [.one false 0 (.ints .u8 b co), .one true g' (.ints .u32 l c')] ∧ l.length ≤ c') ∨
        (∃ e, e ≠ 0 ∧ decF b n = ([], e) ∧ r = .tup [.ns, .int .i64 e] ∧ M = [.one false 0 (.ints .u8 b co)])) (fun _ _ => False) := by
    refine CallA.post_sub ((rdecode_call hb h0).mono ?_ (fun _ _ h => h))
    rintro r M' (⟨l, g', c', h2, rfl, rfl, h3⟩ | ⟨e, he, h2, rfl, rfl | rfl⟩)
    · exact ⟨_, subA_refl _, ⟨trivial, trivial, trivial⟩, rfl, Or.inl ⟨l, g', c', h2, rfl, rfl, h3⟩⟩
    · exact ⟨_, subA_refl _, ⟨trivial, trivial⟩, rfl, Or.inr ⟨e, he, h2, rfl, rfl⟩⟩
    · exact ⟨[.one false 0 (.ints .u8 b co)], ⟨rfl, subA_nil _⟩, ⟨trivial, trivial⟩, rfl, Or.inr ⟨e, he, h2, rfl, rfl⟩⟩
  refine CallA.lift [.win i g 0] hc rfl rfl ⟨⟨_, _, _, rfl, slot_one hi, WinC.same rfl (fun h => h)⟩, trivial⟩ ⟨trivial, trivial⟩ ?_ (fun _ _ h => h.elim)
  rintro r M' (⟨l, g', c', h2, rfl, rfl, h3⟩ | ⟨e, he, h2, rfl, rfl⟩)
  · exact ⟨⟨rfl, rfl⟩, h l g' c' h2 h3⟩
  · refine ⟨⟨rfl, rfl⟩, ?_⟩
    have := h1 e he h2
    rw [← List.append_nil M] at this
    exact this
end Go.Proofs.Ytaioclggifdnhaa


set_option linter.unusedVariables false

set_option linter.unusedSimpArgs false

open Go.RowKit

namespace Go.Proofs.Ytaioclggifdnhaa

set_option maxRecDepth 10000

theorem and32 {x : Int} (hx : 0 ≤ x ∧ x < 4294967296) : bitF .and .u64 x 4294967295 = x := by
  obtain ⟨n, rfl⟩ := Int.eq_ofNat_of_zero_le hx.1
  show IntKind.wrap .u64 (((BitVec.ofInt 64 (n : Int)) &&& (BitVec.ofInt 64 4294967295)).toNat : Int) = _
  have e1 : n % 18446744073709551616 &&& 4294967295 = n % 18446744073709551616 % 4294967296 := Nat.and_two_pow_sub_one_eq_mod _ 32
  have e2 : (BitVec.ofInt 64 (n : Int)).toNat = n % 18446744073709551616 := by rw [BitVec.toNat_ofInt]; omega
  rw [BitVec.toNat_and, e2, show (BitVec.ofInt 64 4294967295).toNat = 4294967295 from rfl, e1]
  simp [IntKind.wrap, IntKind.bits, IntKind.signed]
  omega
theorem shr32 {x : Int} (hx : 0 ≤ x ∧ x < 4294967296) : shrF .u64 x 32 = 0 := by
  have a1 : shrF .u64 x 32 = x / 4294967296 := Int.fdiv_eq_ediv_of_nonneg _ (by decide)
  omega

theorem mul64_call {b : Int} (hb : 0 ≤ b ∧ b < 4294967296) {Kp} :
    CallA Try.prog 50 [.int .u64 1, .int .u64 b] [] (fun r M => r = .tup [.int .u64 0, .int .u64 b] ∧ M = []) Kp := by
  refine step50 (fun _ => []) [] rfl ?_
  repeat ((conv => whnf); first | with_reducible refine O_step ?_ | with_reducible refine S_step ?_ | with_reducible refine D_step ?_ | with_reducible refine RO.exit ?_ | with_reducible refine RO.ret ?_ | ((with_reducible refine And.intro ?sc ?_); case sc => exact side))
  have e1 : bitF .and .u64 1 4294967295 = 1 := and32 (by omega)
  have e2 : bitF .and .u64 b 4294967295 = b := and32 hb
  have e3 : shrF .u64 1 32 = 0 := rfl
  have e4 : shrF .u64 b 32 = 0 := shr32 hb
  have e5 : bitF .and .u64 0 4294967295 = 0 := rfl
  have e6 : shrF .u64 0 32 = 0 := rfl
  have e7 : (1 * b) % 18446744073709551616 = b := by omega
  simp only [e1, e2, e3, e4, e5, e6, e7, Int.mul_zero, Int.zero_mul, Int.add_zero, Int.zero_add, Int.zero_emod]
  exact ⟨rfl, rfl⟩
theorem mul_call {b : Int} (hb : 0 ≤ b ∧ b < 4294967296) {Kp} :
    CallA Try.prog 44 [.int .u64 1, .int .u64 b] [] (fun r M => r = .tup [.int .u64 0, .int .u64 b] ∧ M = []) Kp := by
  refine step44 (fun _ => []) [] rfl ?_
  repeat ((conv => whnf); first | with_reducible refine O_step ?_ | with_reducible refine S_step ?_ | with_reducible refine D_step ?_ | with_reducible refine RO.exit ?_ | with_reducible refine RO.ret ?_ | ((with_reducible refine And.intro ?sc ?_); case sc => exact side))
  refine (mul64_call hb).mono ?_ (fun _ _ h => h)
  rintro r M ⟨rfl, rfl⟩
  repeat ((conv => whnf); first | with_reducible refine O_step ?_ | with_reducible refine S_step ?_ | with_reducible refine D_step ?_ | with_reducible refine RO.exit ?_ | with_reducible refine RO.ret ?_ | ((with_reducible refine And.intro ?sc ?_); case sc => exact side))
  exact rfl
theorem mul_at {M : AH} {K Kp : AV → AH → Prop} {b : Int} (hb : 0 ≤ b ∧ b < 4294967296) (h : K (.tup [.int .u64 0, .int .u64 b]) M) : CallA Try.prog 44 [.int .u64 1, .int .u64 b] M K Kp := by
  refine CallA.lift [] (mul_call (Kp := fun _ _ => False) hb) rfl rfl trivial trivial ?_ (fun _ _ h => h.elim)
  rintro r M' ⟨rfl, rfl⟩
  rw [← List.append_nil M] at h
  exact ⟨rfl, h⟩

theorem repeat_call {v : Int} {k c0 c : Nat} (hk : 1 ≤ k ∧ k ≤ 65536) (hv : 0 ≤ v ∧ v < 4294967296) {Kp} :
    CallA Try.prog 30 [.sl 0 0 0 1 c0, .int .i64 k] [.one false 0 (.ints .u32 [v] c)]
      (fun r M => r = .sl 1 0 0 k k ∧ M = [.one false 0 (.ints .u32 [v] c), .one true 0 (.ints .u32 (List.replicate k v) k)]) Kp := by
  refine CallA.post_sub ?_
  refine step30 (fun _ => []) [] rfl ?_
  repeat ((conv => whnf); first | with_reducible refine O_step ?_ | with_reducible refine S_step ?_ | with_reducible refine D_step ?_ | with_reducible refine RO.exit ?_ | with_reducible refine RO.ret ?_ | ((with_reducible refine And.intro ?sc ?_); case sc => exact side))
  refine And.intro (fun h => absurd (of_decide_eq_true h) (by omega)) (fun _ => ?_)
  repeat ((conv => whnf); first | with_reducible refine O_step ?_ | with_reducible refine S_step ?_ | with_reducible refine D_step ?_ | with_reducible refine RO.exit ?_ | with_reducible refine RO.ret ?_ | ((with_reducible refine And.intro ?sc ?_); case sc => exact side))
  have e1 : (k : Int) % 18446744073709551616 = k := by omega
  rw [e1]
  refine mul_at (b := (k : Int)) (by omega) ?_
  repeat ((conv => whnf); first | with_reducible refine O_step ?_ | with_reducible refine S_step ?_ | with_reducible refine D_step ?_ | with_reducible refine RO.exit ?_ | with_reducible refine RO.ret ?_ | ((with_reducible refine And.intro ?sc ?_); case sc => exact side) | ((with_reducible refine br_f ?sc ?_); case sc => exact sideB) | ((with_reducible refine br_t ?sc ?_); case sc => exact sideB))
  refine And.intro (fun h => absurd (of_decide_eq_true h) (by omega)) (fun _ => ?_)
  repeat ((conv => whnf); first | with_reducible refine O_step ?_ | with_reducible refine S_step ?_ | with_reducible refine D_step ?_ | with_reducible refine RO.exit ?_ | with_reducible refine RO.ret ?_ | ((with_reducible refine And.intro ?sc ?_); case sc => exact side) | ((with_reducible refine br_f ?sc ?_); case sc => exact sideB) | ((with_reducible refine br_t ?sc ?_); case sc => exact sideB))
  intro ys hys zs hzs
  have hz : zs = List.replicate 1 v ++ List.replicate (k - 1) 0 := by
    rw [hzs, hys]
    show [] ++ _ ++ _ = _
    have : min 1 (k : Int).toNat = 1 := by omega
    rw [this]
    show [] ++ [v] ++ List.drop 1 (List.replicate k 0) = _
    rw [List.drop_replicate]; rfl
  subst hz
  have hm : ((min 1 (k : Int).toNat : Nat) : Int) = 1 := by omega
  rw [hm]
  repeat ((conv => whnf); first | with_reducible refine O_step ?_ | with_reducible refine S_step ?_ | with_reducible refine D_step ?_ | with_reducible refine RO.exit ?_ | with_reducible refine RO.ret ?_ | ((with_reducible refine And.intro ?sc ?_); case sc => exact side) | ((with_reducible refine br_f ?sc ?_); case sc => exact sideB) | ((with_reducible refine br_t ?sc ?_); case sc => exact sideB))
  refine WO.go (σ := Nat) (fun n => 1 ≤ n ∧ n ≤ k) (fun n => k - n)
    (fun n => [(7, .sl 1 0 0 k k), (8, .int .i64 n)])
    (fun n => [.one false 0 (.ints .u32 [v] c), .one true 0 (.ints .u32 (List.replicate n v ++ List.replicate (k - n) 0) k)]) 1 tb_ok mixed (by kernel_rfl)
    ⟨Nat.le_refl _, hk.1⟩ (And.intro rfl (And.intro rfl (trivial))) (And.intro rfl (And.intro rfl (trivial))) (fun _ => rfl) (fun _ => rfl) (fun _ => ⟨trivial, trivial, trivial⟩) ?_
  rintro n ⟨h1, h2⟩ d
  repeat ((conv => whnf); first | with_reducible refine O_step ?_ | with_reducible refine S_step ?_ | with_reducible refine D_step ?_ | with_reducible refine RO.exit ?_ | with_reducible refine RO.ret ?_ | ((with_reducible refine And.intro ?sc ?_); case sc => exact side) | ((with_reducible refine br_f ?sc ?_); case sc => exact sideB) | ((with_reducible refine br_t ?sc ?_); case sc => exact sideB))
  refine And.intro (fun hc => ?_) (fun hc => ?_)
  · have hc' : (n : Int) < k := of_decide_eq_true hc
    repeat ((conv => whnf); first | with_reducible refine O_step ?_ | with_reducible refine S_step ?_ | with_reducible refine D_step ?_ | with_reducible refine RO.exit ?_ | with_reducible refine RO.ret ?_ | ((with_reducible refine And.intro ?sc ?_); case sc => exact side) | ((with_reducible refine br_f ?sc ?_); case sc => exact sideB) | ((with_reducible refine br_t ?sc ?_); case sc => exact sideB))
    rw [offS_ne (by omega)]
    repeat ((conv => whnf); first | with_reducible refine O_step ?_ | with_reducible refine S_step ?_ | with_reducible refine D_step ?_ | with_reducible refine RO.exit ?_ | with_reducible refine RO.ret ?_ | ((with_reducible refine And.intro ?sc ?_); case sc => exact side) | ((with_reducible refine br_f ?sc ?_); case sc => exact sideB) | ((with_reducible refine br_t ?sc ?_); case sc => exact sideB))
    intro ys2 hys2 zs2 hzs2
    obtain ⟨m, hm⟩ : ∃ m, m = min (n : Int).toNat (k - (n : Int).toNat) := ⟨_, rfl⟩
    rw [← hm] at hzs2 hys2
    have hz : zs2 = List.replicate (n + m) v ++ List.replicate (k - (n + m)) 0 := by
      rw [hzs2, hys2]
      show List.take (0 + n * 1) _ ++ List.take m (List.drop 0 _) ++ List.drop (0 + n * 1 + m) _ = _
      simp only [Nat.zero_add, Nat.mul_one, List.drop_zero]
      rw [List.take_append_of_le_length (by simp), List.take_append_of_le_length (by simp; omega), List.drop_append]
      simp only [List.length_replicate, List.take_replicate, List.drop_replicate]
      rw [show n - (n + m) = 0 by omega, show n + m - n = m by omega, show min n n = n by omega, show min m n = m by omega, show k - n - m = k - (n + m) by omega]
      simp [List.replicate_append_replicate]
    subst hz
    rw [← hm]
    repeat ((conv => whnf); first | with_reducible refine O_step ?_ | with_reducible refine S_step ?_ | with_reducible refine D_step ?_ | with_reducible refine RO.exit ?_ | with_reducible refine RO.ret ?_ | ((with_reducible refine And.intro ?sc ?_); case sc => exact side) | ((with_reducible refine br_f ?sc ?_); case sc => exact sideB) | ((with_reducible refine br_t ?sc ?_); case sc => exact sideB))
    refine RO.same (n + m) ⟨by omega, by omega⟩ (show k - (n + m) < k - n by omega) (And.intro rfl (And.intro ?_ trivial)) (And.intro rfl (And.intro rfl (trivial)))
    show AV.int .i64 ((n : Int) + m) = AV.int .i64 ((n + m : Nat) : Int)
    push_cast; rfl
  · have hc' : ¬ (n : Int) < k := of_decide_eq_false hc
    obtain rfl : n = k := by omega
    repeat ((conv => whnf); first | with_reducible refine O_step ?_ | with_reducible refine S_step ?_ | with_reducible refine D_step ?_ | with_reducible refine RO.exit ?_ | with_reducible refine RO.ret ?_ | ((with_reducible refine And.intro ?sc ?_); case sc => exact side) | ((with_reducible refine br_f ?sc ?_); case sc => exact sideB) | ((with_reducible refine br_t ?sc ?_); case sc => exact sideB))
    have e : List.replicate n v ++ List.replicate (n - n) 0 = List.replicate n v := by simp
    exact Exists.intro [AO.one false 0 (.ints .u32 [v] c), .one true 0 (.ints .u32 (List.replicate n v) n)] (And.intro (And.intro rfl (And.intro (by rw [e]) trivial)) (And.intro ⟨trivial, trivial, trivial⟩ (And.intro rfl ⟨rfl, rfl⟩)))

theorem repeat_at {M : AH} {K Kp : AV → AH → Prop} {i g k c co : Nat} {o : Bool} {v : Int} (hi : M[i]? = some (.one o g (.ints .u32 [v] co))) (hk : 1 ≤ k ∧ k ≤ 65536) (hv : 0 ≤ v ∧ v < 4294967296)
    (h : K (.sl M.length 0 0 k k) (M ++ [.one true 0 (.ints .u32 (List.replicate k v) k)])) : CallA Try.prog 30 [.sl i g 0 1 c, .int .i64 k] M K Kp := by
  refine CallA.lift [.win i g 0] (repeat_call (c0 := c) (c := co) (Kp := fun _ _ => False) hk hv) rfl rfl ⟨⟨_, _, _, rfl, slot_one hi, WinC.same rfl (fun h => h)⟩, trivial⟩ ⟨trivial, trivial⟩ ?_ (fun _ _ h => h.elim)
  rintro r M' ⟨rfl, rfl⟩
  exact ⟨⟨rfl, rfl⟩, h⟩
end Go.Proofs.Ytaioclggifdnhaa


set_option linter.unusedVariables false

set_option linter.unusedSimpArgs false

open Go.RowKit

namespace Go.Proofs.Ytaioclggifdnhaa

set_option maxRecDepth 10000

theorem or_add32 {x y : Int} (i : Nat) {a : Int} (ha : 0 ≤ a) (hx : x = 2 ^ i * a) (hy : 0 ≤ y ∧ y < 2 ^ i) (hs : x + y < 4294967296) : bitF .or .u32 x y = x + y := by
  obtain ⟨n, rfl⟩ := Int.eq_ofNat_of_zero_le ha
  obtain ⟨m, rfl⟩ := Int.eq_ofNat_of_zero_le hy.1
  have hp : ((2 : Int) ^ i * n) = ((2 ^ i * n : Nat) : Int) := by push_cast; rfl
  have hm : m < 2 ^ i := by have := hy.2; exact_mod_cast this
  rw [hx, hp] at hs ⊢
  generalize hq : 2 ^ i * n = q at *
  have hb : q + m < 4294967296 := by omega
  show IntKind.wrap .u32 (((BitVec.ofInt 32 (q : Int)) ||| (BitVec.ofInt 32 (m : Int))).toNat : Int) = _
  have e1 : (BitVec.ofInt 32 (q : Int)).toNat = q := by rw [BitVec.toNat_ofInt]; omega
  have e2 : (BitVec.ofInt 32 (m : Int)).toNat = m := by rw [BitVec.toNat_ofInt]; omega
  rw [BitVec.toNat_or, e1, e2, ← hq, ← Nat.two_pow_add_eq_or_of_lt hm, hq]
  simp [IntKind.wrap, IntKind.bits, IntKind.signed]
  omega
theorem shl32 {x : Int} {i : Nat} (hi : i ≤ 32) (hx : 0 ≤ x ∧ 2 ^ i * x < 4294967296) : shlF .u32 x (i : Int) = 2 ^ i * x := by
  unfold shlF
  rw [show min (i : Int).toNat (IntKind.bits .u32) = i by show min i 32 = i; omega, Int.mul_comm]
  have : 0 ≤ (2 : Int) ^ i * x := Int.mul_nonneg (Int.le_of_lt (Int.pow_pos (by decide))) hx.1
  simp [IntKind.wrap, IntKind.bits, IntKind.signed]
  omega
theorem pix3 {x y z : Int} (hx : 0 ≤ x ∧ x < 256) (hy : 0 ≤ y ∧ y < 256) (hz : 0 ≤ z ∧ z < 256) :
    bitF .or .u32 (bitF .or .u32 (shlF .u32 (x % 4294967296) 16) (shlF .u32 (y % 4294967296) 8)) (z % 4294967296) = x * 65536 + y * 256 + z := by
  rw [show x % 4294967296 = x by omega, show y % 4294967296 = y by omega, show z % 4294967296 = z by omega]
  have a1 : shlF .u32 x 16 = 2 ^ 16 * x := shl32 (i := 16) (by decide) (by omega)
  have a2 : shlF .u32 y 8 = 2 ^ 8 * y := shl32 (i := 8) (by decide) (by omega)
  rw [a1, a2, or_add32 16 hx.1 rfl (by omega) (by omega), or_add32 8 (a := 256 * x + y) (by omega) (by omega) (by omega) (by omega)]
  omega

theorem decode_call {b : List Int} {c0 c : Nat} {n : Int} (hb : b.length ≤ 1000000) (hc0 : b.length ≤ c0) (h0 : ∀ x ∈ b, 0 ≤ x ∧ x < 256) {Kp} :
    CallA Try.prog 18 [.sl 0 0 0 b.length c0, .int .i64 n] [.one false 0 (.ints .u8 b c)]
      (fun r M => (∃ l g' c', decF b n = (l, 0) ∧ r = .tup [.sl 8 g' 0 l.length c', .int .i64 0] ∧ M = [.one false 0 (.ints .u8 b c), .gone, .gone, .gone, .gone, .gone, .gone, .gone, .one true g' (.ints .u32 l c')] ∧ l.length ≤ c') ∨
        (∃ e, e ≠ 0 ∧ decF b n = ([], e) ∧ r = .tup [.ns, .int .i64 e] ∧ M = [.one false 0 (.ints .u8 b c)])) Kp := by
  refine CallA.post_sub ?_
  have fin : ∀ (M : AH) (e : Int), e ≠ 0 → decF b n = ([], e) → ∃ N, subA (.one false 0 (.ints .u8 b c) :: M) N ∧ nbH N.length N ∧ ((AV.tup [.ns, .int .i64 e]).nb N.length && Nat.ble [AO.one false 0 (.ints .u8 b c)].length N.length) = true ∧ ((∃ l g' c', decF b n = (l, 0) ∧ AV.tup [.ns, .int .i64 e] = .tup [.sl 8 g' 0 l.length c', .int .i64 0] ∧ N = [.one false 0 (.ints .u8 b c), .gone, .gone, .gone, .gone, .gone, .gone, .gone, .one true g' (.ints .u32 l c')] ∧ l.length ≤ c') ∨
        (∃ e', e' ≠ 0 ∧ decF b n = ([], e') ∧ AV.tup [.ns, .int .i64 e] = .tup [.ns, .int .i64 e'] ∧ N = [.one false 0 (.ints .u8 b c)])) := fun M e h1 h2 => ⟨[.one false 0 (.ints .u8 b c)], ⟨rfl, subA_nil M⟩, ⟨trivial, trivial⟩, rfl, Or.inr ⟨e, h1, h2, rfl, rfl⟩⟩
  refine step18 (fun _ => [0, 4]) [] rfl ?_
  repeat ((conv => whnf); first | with_reducible refine O_step ?_ | with_reducible refine S_step ?_ | with_reducible refine D_step ?_ | with_reducible refine RO.exit ?_ | with_reducible refine RO.ret ?_ | ((with_reducible refine And.intro ?sc ?_); case sc => exact side) | ((with_reducible refine br_f ?sc ?_); case sc => exact sideB) | ((with_reducible refine br_t ?sc ?_); case sc => exact sideB))
  refine And.intro (fun hA => ?_) (fun hA => ?_)
  · have hA' : n < 0 := of_decide_eq_true hA
    repeat ((conv => whnf); first | with_reducible refine O_step ?_ | with_reducible refine S_step ?_ | with_reducible refine D_step ?_ | with_reducible refine RO.exit ?_ | with_reducible refine RO.ret ?_ | ((with_reducible refine And.intro ?sc ?_); case sc => exact side) | ((with_reducible refine br_f ?sc ?_); case sc => exact sideB) | ((with_reducible refine br_t ?sc ?_); case sc => exact sideB))
    exact fin _ 1 (by decide) (by rw [decF, if_pos (by omega)])
  · have hA' : ¬ n < 0 := of_decide_eq_false hA
    repeat ((conv => whnf); first | with_reducible refine O_step ?_ | with_reducible refine S_step ?_ | with_reducible refine D_step ?_ | with_reducible refine RO.exit ?_ | with_reducible refine RO.ret ?_ | ((with_reducible refine And.intro ?sc ?_); case sc => exact side) | ((with_reducible refine br_f ?sc ?_); case sc => exact sideB) | ((with_reducible refine br_t ?sc ?_); case sc => exact sideB))
    refine And.intro (fun hB => ?_) (fun hB => ?_)
    · have hB' : n > 65536 := of_decide_eq_true hB
      repeat ((conv => whnf); first | with_reducible refine O_step ?_ | with_reducible refine S_step ?_ | with_reducible refine D_step ?_ | with_reducible refine RO.exit ?_ | with_reducible refine RO.ret ?_ | ((with_reducible refine And.intro ?sc ?_); case sc => exact side) | ((with_reducible refine br_f ?sc ?_); case sc => exact sideB) | ((with_reducible refine br_t ?sc ?_); case sc => exact sideB))
      exact fin _ 1 (by decide) (by rw [decF, if_pos (by omega)])
    · have hB' : ¬ n > 65536 := of_decide_eq_false hB
      obtain ⟨N, rfl⟩ : ∃ N : Nat, n = N := ⟨n.toNat, by omega⟩
      have hF : decF b N = match decG N b [] with | some l => (l, 0) | none => ([], 131) := by
        rw [decF, if_neg (by omega)]; rfl
      have bad : decG N b [] = none → decF b N = ([], 131) := fun h => by rw [hF, h]
      repeat ((conv => whnf); first | with_reducible refine O_step ?_ | with_reducible refine S_step ?_ | with_reducible refine D_step ?_ | with_reducible refine RO.exit ?_ | with_reducible refine RO.ret ?_ | ((with_reducible refine And.intro ?sc ?_); case sc => exact side) | ((with_reducible refine br_f ?sc ?_); case sc => exact sideB) | ((with_reducible refine br_t ?sc ?_); case sc => exact sideB))
      refine And.intro (fun hC => ?_) (fun hC => ?_)
      · have hC' : b.length % 4 ≠ 0 := by
          have := nd_t hC
          rw [Int.tmod_eq_emod_of_nonneg (by omega)] at this
          omega
        repeat ((conv => whnf); first | with_reducible refine O_step ?_ | with_reducible refine S_step ?_ | with_reducible refine D_step ?_ | with_reducible refine RO.exit ?_ | with_reducible refine RO.ret ?_ | ((with_reducible refine And.intro ?sc ?_); case sc => exact side) | ((with_reducible refine br_f ?sc ?_); case sc => exact sideB) | ((with_reducible refine br_t ?sc ?_); case sc => exact sideB))
        exact fin _ 131 (by decide) (bad (decG_mod _ _ hC'))
      · have hC' : b.length % 4 = 0 := by
          have := nd_f hC
          rw [Int.tmod_eq_emod_of_nonneg (by omega)] at this
          omega
        repeat ((conv => whnf); first | with_reducible refine O_step ?_ | with_reducible refine S_step ?_ | with_reducible refine D_step ?_ | with_reducible refine RO.exit ?_ | with_reducible refine RO.ret ?_ | ((with_reducible refine And.intro ?sc ?_); case sc => exact side) | ((with_reducible refine br_f ?sc ?_); case sc => exact sideB) | ((with_reducible refine br_t ?sc ?_); case sc => exact sideB))
        refine step29 (fun _ => []) [] rfl ?_
        repeat ((conv => whnf); first | with_reducible refine O_step ?_ | with_reducible refine S_step ?_ | with_reducible refine D_step ?_ | with_reducible refine RO.exit ?_ | with_reducible refine RO.ret ?_ | ((with_reducible refine And.intro ?sc ?_); case sc => exact side) | ((with_reducible refine br_f ?sc ?_); case sc => exact sideB) | ((with_reducible refine br_t ?sc ?_); case sc => exact sideB))
        refine WO.range rfl rfl [(3, .ptr 1 0 0), (4, .ptr 2 0 0), (5, .ptr 3 0 0), (6, .ptr 4 0 0)] (And.intro rfl (And.intro rfl (And.intro rfl (And.intro rfl (trivial))))) fun l fn df d => ?_
        refine step43 (fun _ => [5, 6]) [] rfl ?_
        repeat ((conv => whnf); first | with_reducible refine O_step ?_ | with_reducible refine S_step ?_ | with_reducible refine D_step ?_ | with_reducible refine RO.exit ?_ | with_reducible refine RO.ret ?_ | ((with_reducible refine And.intro ?sc ?_); case sc => exact side) | ((with_reducible refine br_f ?sc ?_); case sc => exact sideB) | ((with_reducible refine br_t ?sc ?_); case sc => exact sideB))
        refine WO.gov (σ := Nat × Nat × Nat × List Int) (fun (i, g, cc, ys) => i ≤ b.length ∧ i % 4 = 0 ∧ ys.length ≤ cc ∧ ys.length ≤ N ∧ decG N b [] = decG N (b.drop i) ys) (fun (i, _) => b.length - i)
          (fun (i, g, cc, ys) => [(0, .fn (.yield l) [] []), (1, .ptr 5 0 0), (2, .ptr 6 0 0), (4, .int .i64 i)])
          (fun (i, g, cc, ys) => [.one false 0 (.ints .u8 b c), .one true 0 (.cells [.int .i64 N]), .one true 0 (.cells [.ns]), .one true 0 (.cells [.int .i64 0]), .one true 0 (.cells [.sl 8 g 0 ys.length cc]), .one true 0 (.cells [.sl 0 0 0 b.length c0]), .one true 0 (.cells [.int .i64 4]), .one true 0 (.loop l .ready none fn _ _ _ _ _ df), .one true g (.ints .u32 ys cc)]) (0, 0, 0, []) tb_ok mixed (by kernel_rfl)
          [(0, .fn (.yield l) [] []), (1, .ptr 5 0 0), (2, .ptr 6 0 0), (4, .int .i64 0)] _ ⟨Nat.zero_le _, rfl, Nat.zero_le _, Nat.zero_le _, rfl⟩ (And.intro rfl (And.intro rfl (And.intro rfl (And.intro rfl (trivial))))) rfl (Vw.ghost (i := 4) (k := 0) (x := .ints .u32 [] 0) rfl rfl ⟨rfl, rfl⟩) (And.intro rfl (And.intro rfl (And.intro rfl (And.intro rfl (And.intro rfl (And.intro rfl (And.intro rfl (And.intro rfl (And.intro rfl (trivial)))))))))) (fun _ => rfl) (fun _ => rfl) (fun _ => ⟨trivial, rfl, rfl, rfl, rfl, rfl, rfl, ?_, trivial, trivial⟩) ?_
        · exact nb_ofL rfl
        rintro ⟨i, g, cc, ys⟩ ⟨h1, h2, h3, h4, h5⟩ d2
        repeat ((conv => whnf); first | with_reducible refine O_step ?_ | with_reducible refine S_step ?_ | with_reducible refine D_step ?_ | with_reducible refine RO.exit ?_ | with_reducible refine RO.ret ?_ | ((with_reducible refine And.intro ?sc ?_); case sc => exact side) | ((with_reducible refine br_f ?sc ?_); case sc => exact sideB) | ((with_reducible refine br_t ?sc ?_); case sc => exact sideB))
        refine And.intro (fun hc => ?_) (fun hc => ?_)
        · have hc' : (i : Int) < b.length := of_decide_eq_true hc
          repeat ((conv => whnf); first | with_reducible refine O_step ?_ | with_reducible refine S_step ?_ | with_reducible refine D_step ?_ | with_reducible refine RO.exit ?_ | with_reducible refine RO.ret ?_ | ((with_reducible refine And.intro ?sc ?_); case sc => exact side) | ((with_reducible refine br_f ?sc ?_); case sc => exact sideB) | ((with_reducible refine br_t ?sc ?_); case sc => exact sideB))
          have hmin : min (4 : Int) (((b.length - (i : Int).toNat : Nat)) : Int) = 4 := by omega
          rw [hmin, offS_1 (by omega), show ((i : Int) + 4).toNat - (i : Int).toNat = 4 by omega, show 0 + (i : Int).toNat = i by omega]
          refine YieldA.round (x := { cx18 (fun _ => [0, 4]) [] with r := some l }) tb_ok mixed (i := 7) rfl (by kernel_rfl) rfl rfl ?_
          have v0 := bget h0 i (by omega)
          have v1 := bget h0 (i + 1) (by omega)
          have v2 := bget h0 (i + 2) (by omega)
          have v3 := bget h0 (i + 3) (by omega)
          have hs := decG_step (n := N) (b := b) (out := ys) (i := i) (by omega)
          obtain ⟨X, hX⟩ : ∃ X, X = b.getD (i + 1) 0 * 65536 + b.getD (i + 2) 0 * 256 + b.getD (i + 3) 0 := ⟨_, rfl⟩
          rw [← hX] at hs
          repeat ((conv => whnf); first | with_reducible refine O_step ?_ | with_reducible refine S_step ?_ | with_reducible refine D_step ?_ | with_reducible refine RO.exit ?_ | with_reducible refine RO.ret ?_ | ((with_reducible refine And.intro ?sc ?_); case sc => exact side) | ((with_reducible refine br_f ?sc ?_); case sc => exact sideB) | ((with_reducible refine br_t ?sc ?_); case sc => exact sideB))
          obtain ⟨k, hk⟩ : ∃ k : Nat, b.getD i 0 + 1 = k := ⟨(b.getD i 0).toNat + 1, by omega⟩
          have hkn : (b.getD i 0).toNat + 1 = k := by omega
          rw [hkn] at hs
          rw [show Int.toNat 0 + i = i from Nat.zero_add i]
          repeat ((conv => whnf); first | with_reducible refine O_step ?_ | with_reducible refine S_step ?_ | with_reducible refine D_step ?_ | with_reducible refine RO.exit ?_ | with_reducible refine RO.ret ?_ | ((with_reducible refine And.intro ?sc ?_); case sc => exact side) | ((with_reducible refine br_f ?sc ?_); case sc => exact sideB) | ((with_reducible refine br_t ?sc ?_); case sc => exact sideB))
          rw [hk]
          refine And.intro (fun hE => ?_) (fun hE => ?_)
          · have hE' : (N : Int) - ys.length < k := of_decide_eq_true hE
            rw [if_neg (by omega)] at hs
            repeat ((conv => whnf); first | with_reducible refine O_step ?_ | with_reducible refine S_step ?_ | with_reducible refine D_step ?_ | with_reducible refine RO.exit ?_ | with_reducible refine RO.ret ?_ | ((with_reducible refine And.intro ?sc ?_); case sc => exact side) | ((with_reducible refine br_f ?sc ?_); case sc => exact sideB) | ((with_reducible refine br_t ?sc ?_); case sc => exact sideB))
            refine Or.inr (Or.inl (And.intro rfl ?_))
            repeat ((conv => whnf); first | with_reducible refine O_step ?_ | with_reducible refine S_step ?_ | with_reducible refine D_step ?_ | with_reducible refine RO.exit ?_ | with_reducible refine RO.ret ?_ | ((with_reducible refine And.intro ?sc ?_); case sc => exact side) | ((with_reducible refine br_f ?sc ?_); case sc => exact sideB) | ((with_reducible refine br_t ?sc ?_); case sc => exact sideB))
            exact fin _ 131 (by decide) (bad (by rw [h5, hs]))
          · have hE' : ¬ (N : Int) - ys.length < k := of_decide_eq_false hE
            rw [if_pos (by omega)] at hs
            repeat ((conv => whnf); first | with_reducible refine O_step ?_ | with_reducible refine S_step ?_ | with_reducible refine D_step ?_ | with_reducible refine RO.exit ?_ | with_reducible refine RO.ret ?_ | ((with_reducible refine And.intro ?sc ?_); case sc => exact side) | ((with_reducible refine br_f ?sc ?_); case sc => exact sideB) | ((with_reducible refine br_t ?sc ?_); case sc => exact sideB))
            rw [show Int.toNat 1 + i = i + 1 from Nat.add_comm 1 i, show Int.toNat 2 + i = i + 2 from Nat.add_comm 2 i, show Int.toNat 3 + i = i + 3 from Nat.add_comm 3 i, pix3 v1 v2 v3, ← hX]
            refine repeat_at (i := 9) rfl (by omega) (by omega) ?_
            repeat ((conv => whnf); first | with_reducible refine O_step ?_ | with_reducible refine S_step ?_ | with_reducible refine D_step ?_ | with_reducible refine RO.exit ?_ | with_reducible refine RO.ret ?_ | ((with_reducible refine And.intro ?sc ?_); case sc => exact side) | ((with_reducible refine br_f ?sc ?_); case sc => exact sideB) | ((with_reducible refine br_t ?sc ?_); case sc => exact sideB))
            intro zs hzs
            have hz : zs = List.replicate k X := by rw [hzs]; show List.take k (List.replicate k X) = _; rw [List.take_replicate, Nat.min_self]
            subst hz
            repeat ((conv => whnf); first | with_reducible refine O_step ?_ | with_reducible refine S_step ?_ | with_reducible refine D_step ?_ | with_reducible refine RO.exit ?_ | with_reducible refine RO.ret ?_ | ((with_reducible refine And.intro ?sc ?_); case sc => exact side) | ((with_reducible refine br_f ?sc ?_); case sc => exact sideB) | ((with_reducible refine br_t ?sc ?_); case sc => exact sideB))
            intro c2 hc2
            repeat ((conv => whnf); first | with_reducible refine O_step ?_ | with_reducible refine S_step ?_ | with_reducible refine D_step ?_ | with_reducible refine RO.exit ?_ | with_reducible refine RO.ret ?_ | ((with_reducible refine And.intro ?sc ?_); case sc => exact side) | ((with_reducible refine br_f ?sc ?_); case sc => exact sideB) | ((with_reducible refine br_t ?sc ?_); case sc => exact sideB))
            refine RO.same (i + 4, g + 1, c2, ys ++ List.replicate k X) ⟨by omega, by omega, by simp only [List.length_append, List.length_replicate]; exact hc2, by simp only [List.length_append, List.length_replicate]; omega, by rw [h5, hs]⟩ (show b.length - (i + 4) < b.length - i by omega) (And.intro rfl (And.intro rfl (And.intro rfl (And.intro rfl trivial)))) (And.intro rfl (And.intro rfl (And.intro rfl (And.intro rfl (And.intro ?_ (And.intro rfl (And.intro rfl (And.intro rfl (And.intro rfl (subA_nil _))))))))))
            show AO.one true 0 (.cells [.sl 8 (g + 1) 0 (ys ++ List.replicate k X).length c2]) = AO.one true 0 (.cells [.sl 8 (g + 1) 0 (ys.length + k) c2])
            rw [List.length_append, List.length_replicate]
        · have hc' : ¬ (i : Int) < b.length := of_decide_eq_false hc
          obtain rfl : i = b.length := by omega
          rw [List.drop_length] at h5
          simp only [decG] at h5
          repeat ((conv => whnf); first | with_reducible refine O_step ?_ | with_reducible refine S_step ?_ | with_reducible refine D_step ?_ | with_reducible refine RO.exit ?_ | with_reducible refine RO.ret ?_ | ((with_reducible refine And.intro ?sc ?_); case sc => exact side) | ((with_reducible refine br_f ?sc ?_); case sc => exact sideB) | ((with_reducible refine br_t ?sc ?_); case sc => exact sideB))
          refine Or.inl (And.intro rfl ?_)
          repeat ((conv => whnf); first | with_reducible refine O_step ?_ | with_reducible refine S_step ?_ | with_reducible refine D_step ?_ | with_reducible refine RO.exit ?_ | with_reducible refine RO.ret ?_ | ((with_reducible refine And.intro ?sc ?_); case sc => exact side) | ((with_reducible refine br_f ?sc ?_); case sc => exact sideB) | ((with_reducible refine br_t ?sc ?_); case sc => exact sideB))
          refine And.intro (fun hD => ?_) (fun hD => ?_)
          · have hD' : ¬ ys.length = N := by have := of_decide_eq_true hD; omega
            rw [if_neg hD'] at h5
            repeat ((conv => whnf); first | with_reducible refine O_step ?_ | with_reducible refine S_step ?_ | with_reducible refine D_step ?_ | with_reducible refine RO.exit ?_ | with_reducible refine RO.ret ?_ | ((with_reducible refine And.intro ?sc ?_); case sc => exact side) | ((with_reducible refine br_f ?sc ?_); case sc => exact sideB) | ((with_reducible refine br_t ?sc ?_); case sc => exact sideB))
            exact fin _ 131 (by decide) (bad h5)
          · have hD' : ys.length = N := by have := of_decide_eq_false hD; omega
            rw [if_pos hD'] at h5
            repeat ((conv => whnf); first | with_reducible refine O_step ?_ | with_reducible refine S_step ?_ | with_reducible refine D_step ?_ | with_reducible refine RO.exit ?_ | with_reducible refine RO.ret ?_ | ((with_reducible refine And.intro ?sc ?_); case sc => exact side) | ((with_reducible refine br_f ?sc ?_); case sc => exact sideB) | ((with_reducible refine br_t ?sc ?_); case sc => exact sideB))
            exact Exists.intro [.one false 0 (.ints .u8 b c), .gone, .gone, .gone, .gone, .gone, .gone, .gone, .one true g (.ints .u32 ys cc)] (And.intro (And.intro rfl (And.intro trivial (And.intro trivial (And.intro trivial (And.intro trivial (And.intro trivial (And.intro trivial (And.intro trivial (And.intro rfl trivial))))))))) (And.intro ⟨trivial, trivial, trivial, trivial, trivial, trivial, trivial, trivial, trivial, trivial⟩ (And.intro rfl (Or.inl ⟨ys, g, cc, by rw [hF, h5], rfl, rfl, h3⟩))))

theorem decode_at {M : AH} {K Kp : AV → AH → Prop} {i g m c co : Nat} {o : Bool} {b : List Int} {n : Int} (hi : M[i]? = some (.one o g (.ints .u8 b co))) (hm : m = b.length) (hb : b.length ≤ 1000000) (hc : m ≤ c) (h0 : ∀ x ∈ b, 0 ≤ x ∧ x < 256)
    (h : ∀ l g' c', decF b n = (l, 0) → l.length ≤ c' → K (.tup [.sl (M.length + 7) g' 0 l.length c', .int .i64 0]) (M ++ [.gone, .gone, .gone, .gone, .gone, .gone, .gone, .one true g' (.ints .u32 l c')]))
    (h1 : ∀ e, e ≠ 0 → decF b n = ([], e) → K (.tup [.ns, .int .i64 e]) M) : CallA Try.prog 18 [.sl i g 0 m c, .int .i64 n] M K Kp := by
  subst hm
  refine CallA.lift [.win i g 0] (decode_call (b := b) (c0 := c) (c := co) (n := n) (Kp := fun _ _ => False) hb hc h0) rfl rfl ⟨⟨_, _, _, rfl, slot_one hi, WinC.same rfl (fun h => h)⟩, trivial⟩ ⟨trivial, trivial⟩ ?_ (fun _ _ h => h.elim)
  rintro r M' (⟨l, g', c', h2, rfl, rfl, h3⟩ | ⟨e, he, h2, rfl, rfl⟩)
  · exact ⟨⟨rfl, rfl⟩, h l g' c' h2 h3⟩
  · refine ⟨⟨rfl, rfl⟩, ?_⟩
    have := h1 e he h2
    rw [← List.append_nil M] at this
    exact this
end Go.Proofs.Ytaioclggifdnhaa


set_option linter.unusedVariables false

set_option linter.unusedSimpArgs false

open Go.RowKit

namespace Go.Proofs.Ytaioclggifdnhaa

set_option maxRecDepth 10000

theorem e4_bound {n : Nat} {x : Int} (hn : n < 256) (hx : 0 ≤ x ∧ x < 16777216) : ∀ y ∈ e4 n x, 0 ≤ y ∧ y < 256 := by
  intro y hy
  simp only [e4, List.mem_cons, List.not_mem_nil, or_false] at hy
  rcases hy with rfl | rfl | rfl | rfl <;> omega
theorem encG_bound : ∀ (l : List Int) (n : Nat), n < 256 → (∀ x ∈ l, 0 ≤ x ∧ x < 16777216) → ∀ y ∈ encG n l, 0 ≤ y ∧ y < 256
  | [], _, _, _ => by intro y hy; simp [encG] at hy
  | x :: l, n, hn, h => by
    intro y hy
    simp only [encG] at hy
    split at hy
    · rename_i hc
      exact encG_bound l (n + 1) (by omega) (fun z hz => h z (by simp [hz])) y hy
    · rcases List.mem_append.1 hy with hy | hy
      · exact e4_bound hn (h x (by simp)) y hy
      · exact encG_bound l 0 (by decide) (fun z hz => h z (by simp [hz])) y hy
theorem encF_bound (xs : List Int) : ∀ y ∈ encF xs, 0 ≤ y ∧ y < 256 := encG_bound _ 0 (by decide) cutL_bound

theorem tells_call {Kp} : CallA Try.prog 17 [] [] (fun r M => r = .bo true ∧ M = []) Kp := by
  refine CallA.post_sub ?_
  refine step17 (fun _ => []) [] rfl ?_
  repeat ((conv => whnf); first | with_reducible refine O_step ?_ | with_reducible refine S_step ?_ | with_reducible refine D_step ?_ | with_reducible refine RO.exit ?_ | with_reducible refine RO.ret ?_ | ((with_reducible refine And.intro ?sc ?_); case sc => exact side) | ((with_reducible refine br_f ?sc ?_); case sc => exact sideB) | ((with_reducible refine br_t ?sc ?_); case sc => exact sideB))
  refine decode_at (i := 0) (b := [1, 1, 2, 3]) (n := 2) rfl rfl (by decide) (by decide) (by decide) (fun l g c hl hc => ?_) (fun e he hl => ?_)
  · obtain rfl : l = [66051, 66051] := by
      have : decF [1, 1, 2, 3] 2 = ([66051, 66051], 0) := by decide
      rw [this] at hl
      exact (congrArg Prod.fst hl).symm
    repeat ((conv => whnf); first | with_reducible refine O_step ?_ | with_reducible refine S_step ?_ | with_reducible refine D_step ?_ | with_reducible refine RO.exit ?_ | with_reducible refine RO.ret ?_ | ((with_reducible refine And.intro ?sc ?_); case sc => exact side) | ((with_reducible refine br_f ?sc ?_); case sc => exact sideB) | ((with_reducible refine br_t ?sc ?_); case sc => exact sideB))
    refine encode_at (i := 9) (xs := [66051, 66051, 263430]) rfl rfl (by decide) (by decide) (fun g' c' hc' => ?_)
    rw [show encF [66051, 66051, 263430] = [1, 1, 2, 3, 0, 4, 5, 6] by decide] at hc' ⊢
    repeat ((conv => whnf); first | with_reducible refine O_step ?_ | with_reducible refine S_step ?_ | with_reducible refine D_step ?_ | with_reducible refine RO.exit ?_ | with_reducible refine RO.ret ?_ | ((with_reducible refine And.intro ?sc ?_); case sc => exact side) | ((with_reducible refine br_f ?sc ?_); case sc => exact sideB) | ((with_reducible refine br_t ?sc ?_); case sc => exact sideB))
    intro ys hys
    obtain rfl : ys = [1, 1, 2, 3, 0, 4, 5, 6] := by rw [hys]; rfl
    repeat ((conv => whnf); first | with_reducible refine O_step ?_ | with_reducible refine S_step ?_ | with_reducible refine D_step ?_ | with_reducible refine RO.exit ?_ | with_reducible refine RO.ret ?_ | ((with_reducible refine And.intro ?sc ?_); case sc => exact side) | ((with_reducible refine br_f ?sc ?_); case sc => exact sideB) | ((with_reducible refine br_t ?sc ?_); case sc => exact sideB))
    refine br_t (str_const _ rfl) ?_
    repeat ((conv => whnf); first | with_reducible refine O_step ?_ | with_reducible refine S_step ?_ | with_reducible refine D_step ?_ | with_reducible refine RO.exit ?_ | with_reducible refine RO.ret ?_ | ((with_reducible refine And.intro ?sc ?_); case sc => exact side) | ((with_reducible refine br_f ?sc ?_); case sc => exact sideB) | ((with_reducible refine br_t ?sc ?_); case sc => exact sideB))
    exact ⟨[], subA_nil _, trivial, rfl, rfl, rfl⟩
  · exfalso
    have : decF [1, 1, 2, 3] 2 = ([66051, 66051], 0) := by decide
    rw [this] at hl
    exact he (congrArg Prod.snd hl).symm
theorem rsame_nil {M : AH} {K Kp : AV → AH → Prop} (h : K (.bo true) (M ++ [.one true 0 (.ints .u32 [] 0)])) : CallA Try.prog 16 [.ns, .ns] M K Kp := by
  refine CallA.view (Vw.nils (x := .ints .u32 [] 0) ⟨rfl, rfl⟩ (l' := [.sl M.length 0 0 0 0, .sl M.length 0 0 0 0]) (And.intro (.inr ⟨rfl, rfl⟩) (And.intro (.inr ⟨rfl, rfl⟩) trivial))) ?_
  exact rsame_at (i := M.length) (j := M.length) (o1 := true) (o2 := true) (co := 0) (co2 := 0) (xs := []) (ys := []) (by simp) (by simp) rfl rfl (by decide) (by decide) h
theorem tells_at {M : AH} {K Kp : AV → AH → Prop} (h : K (.bo true) M) : CallA Try.prog 17 [] M K Kp := by
  refine CallA.lift [] (tells_call (Kp := fun _ _ => False)) rfl rfl trivial trivial ?_ (fun _ _ h => h.elim)
  rintro r M' ⟨rfl, rfl⟩
  rw [← List.append_nil M] at h
  exact ⟨rfl, h⟩
end Go.Proofs.Ytaioclggifdnhaa


set_option linter.unusedVariables false

set_option linter.unusedSimpArgs false

open Go.RowKit

namespace Go.Proofs.Ytaioclggifdnhaa

set_option maxRecDepth 10000

theorem iteI {α : Type} {p q : Prop} [Decidable p] [Decidable q] (h : p ↔ q) {a a' b : α} (ha : a = a') : (if p then a else b) = if q then a' else b := by
  subst ha; by_cases hp : p
  · rw [if_pos hp, if_pos (h.1 hp)]
  · rw [if_neg hp, if_neg (fun hq => hp (h.2 hq))]
theorem rep_app (k : Nat) (x : Int) (l : List Int) : List.replicate k x ++ x :: l = List.replicate (k + 1) x ++ l := by
  rw [List.replicate_succ', List.append_assoc]; rfl
/-- What is encoded is decoded. -/
theorem decG_enc {N : Nat} {rest : List Int} : ∀ (l : List Int) (k : Nat) (x : Int) (out : List Int), k < 256 → (∀ y ∈ x :: l, 0 ≤ y ∧ y < 16777216) →
    decG N (encG k (x :: l) ++ rest) out = if out.length + (k + (x :: l).length) ≤ N then decG N rest (out ++ (List.replicate k x ++ x :: l)) else none
  | l, k, x, out, hk, hb => by
    have hx := hb x (by simp)
    have step : decG N (e4 k x ++ encG 0 l ++ rest) out = if out.length + (k + 1) ≤ N then decG N (encG 0 l ++ rest) (out ++ List.replicate (k + 1) x) else none := by
      show decG N ((k : Int) :: x / 65536 :: x / 256 % 256 :: x % 256 :: (encG 0 l ++ rest)) out = _
      simp only [decG]
      rw [show x / 65536 * 65536 + x / 256 % 256 * 256 + x % 256 = x by omega]
      rfl
    rw [encG]
    split
    · rename_i hc
      match l, hc, hb with
      | [], hc, _ => simp at hc
      | y :: l', hc, hb =>
        obtain rfl : y = x := by simpa using hc.1
        rw [decG_enc l' (k + 1) y out hc.2 (fun z hz => hb z (by simp [hz]))]
        exact iteI (by simp only [List.length_cons]; omega) (by rw [rep_app k y (y :: l')])
    · match l, hb, step with
      | [], hb, step =>
        rw [step]
        simp only [encG, List.nil_append, List.length_cons, List.length_nil]
        rw [rep_app]; simp
      | y :: l', hb, step =>
        rw [step]
        split
        · rw [decG_enc l' 0 y _ (by decide) (fun z hz => hb z (by simp [hz]))]
          exact iteI (by simp only [List.length_cons, List.length_append, List.length_replicate]; omega) (by rw [rep_app k x (y :: l')]; simp)
        · rw [if_neg (by simp only [List.length_cons]; omega)]
theorem decG_enc0 {N : Nat} {rest : List Int} (l out : List Int) (hb : ∀ y ∈ l, 0 ≤ y ∧ y < 16777216) (hN : out.length ≤ N) :
    decG N (encG 0 l ++ rest) out = if out.length + l.length ≤ N then decG N rest (out ++ l) else none := by
  match l, hb with
  | [], _ => simp [encG, hN]
  | x :: l, hb =>
    rw [decG_enc l 0 x out (by decide) hb]
    simp
theorem decG_encF (xs : List Int) (N : Nat) : decG N (encF xs) [] = if xs.length = N then some (cutL xs) else none := by
  have h := decG_enc0 (N := N) (rest := []) (cutL xs) [] cutL_bound (Nat.zero_le _)
  rw [List.append_nil] at h
  show decG N (encG 0 (cutL xs)) [] = _
  rw [h, cutL_length]
  simp only [List.length_nil, Nat.zero_add, List.nil_append, decG, cutL_length]
  split
  · rfl
  · rw [if_neg (by omega)]
theorem decF_encF (xs : List Int) (n : Int) (hx : xs.length ≤ 65536) : decF (encF xs) n = if n = xs.length then (cutL xs, 0) else ([], if n < 0 ∨ n > 65536 then 1 else 131) := by
  unfold decF
  by_cases h : n < 0 ∨ n > 65536
  · rw [if_pos h, if_pos h, if_neg (by omega)]
  · rw [if_neg h, if_neg h, decG_encF]
    by_cases h2 : n = xs.length
    · rw [if_pos h2, if_pos (by omega)]
    · rw [if_neg h2, if_neg (by omega)]

/-! No two runs could be one. -/
def apart4 : List Int → Prop
  | a :: b :: c :: d :: (e :: f :: g :: h :: l) => ¬ (a < 255 ∧ [b, c, d] = [f, g, h]) ∧ apart4 (e :: f :: g :: h :: l)
  | _ => True
theorem encG_head : ∀ (l : List Int) (k : Nat) (x : Int), ∃ k' r, encG k (x :: l) = e4 k' x ++ r
  | l, k, x => by
    rw [encG]
    split
    · rename_i hc
      match l, hc with
      | [], hc => simp at hc
      | y :: l', hc =>
        obtain rfl : y = x := by simpa using hc.1
        exact encG_head l' (k + 1) y
    · exact ⟨k, _, rfl⟩
theorem encG_apart : ∀ (l : List Int) (k : Nat), (∀ y ∈ l, 0 ≤ y ∧ y < 16777216) → apart4 (encG k l)
  | [], k, _ => by simp [encG, apart4]
  | x :: l, k, hb => by
    rw [encG]
    split
    · exact encG_apart l (k + 1) (fun z hz => hb z (by simp [hz]))
    · rename_i hc
      match l, hb, hc with
      | [], _, _ => simp [encG, e4, apart4]
      | y :: l', hb, hc =>
        have ih := encG_apart (y :: l') 0 (fun z hz => hb z (by simp [hz]))
        obtain ⟨k', r, hr⟩ := encG_head l' 0 y
        rw [hr] at ih ⊢
        refine ⟨fun hh => hc ⟨?_, by omega⟩, ih⟩
        obtain ⟨_, he⟩ := hh
        simp only [List.cons.injEq, and_true] at he
        have h1 := hb x (by simp)
        have h2 := hb y (by simp)
        have : y = x := by omega
        simp [this]
theorem apart4_get : ∀ (b : List Int) (i : Nat), apart4 b → i % 4 = 0 → 4 ≤ i → i + 4 ≤ b.length → ¬ (b.getD (i - 4) 0 < 255 ∧ (b.drop (i - 3)).take 3 = (b.drop (i + 1)).take 3)
  | a :: b :: c :: d :: (e :: f :: g :: h :: l), i, hp, hi, h4, hl => by
    by_cases h0 : i = 4
    · subst h0
      exact hp.1
    · obtain ⟨j, rfl⟩ : ∃ j, i = j + 4 := ⟨i - 4, by omega⟩
      have := apart4_get (e :: f :: g :: h :: l) j hp.2 (by omega) (by omega) (by simp at hl ⊢; omega)
      rw [show j + 4 - 4 = (j - 4) + 1 + 1 + 1 + 1 by omega, show j + 4 - 3 = (j - 3) + 1 + 1 + 1 + 1 by omega, show j + 4 + 1 = (j + 1) + 1 + 1 + 1 + 1 by omega]
      simpa only [List.drop_succ_cons, List.getD_cons_succ] using this
  | [], i, _, _, h4, hl => by simp at hl
  | [_], i, _, _, h4, hl => by simp at hl <;> omega
  | [_, _], i, _, _, h4, hl => by simp at hl <;> omega
  | [_, _, _], i, _, _, h4, hl => by simp at hl <;> omega
  | [_, _, _, _], i, _, _, h4, hl => by simp at hl; omega
  | [_, _, _, _, _], i, _, _, h4, hl => by simp at hl; omega
  | [_, _, _, _, _, _], i, _, _, h4, hl => by simp at hl; omega
  | [_, _, _, _, _, _, _], i, _, _, h4, hl => by simp at hl; omega
theorem encG_mod : ∀ (l : List Int) (k : Nat), (encG k l).length % 4 = 0
  | [], _ => rfl
  | x :: l, k => by
    rw [encG]
    split
    · exact encG_mod l (k + 1)
    · rw [List.length_append]
      have := encG_mod l 0
      show (4 + _) % 4 = 0
      omega

/-! No bytes tell pixels in fewer runs. -/
theorem encG_near : ∀ (l : List Int), (∀ p q, p < 256 → q < 256 → (encG p l).length ≤ (encG q l).length + 4) ∧ (∀ p q, p ≤ q → q < 256 → (encG p l).length ≤ (encG q l).length)
  | [] => ⟨fun _ _ _ _ => by simp [encG], fun _ _ _ _ => by simp [encG]⟩
  | x :: l => by
    obtain ⟨C, D⟩ := encG_near l
    have he : ∀ n, (e4 n x).length = 4 := fun _ => rfl
    constructor
    · intro p q hp hq
      simp only [encG]
      split <;> split <;> rename_i h1 h2
      · exact C _ _ h1.2 h2.2
      · have := C (p + 1) 0 h1.2 (by decide)
        rw [List.length_append, he]; omega
      · have := D 0 (q + 1) (by omega) h2.2
        rw [List.length_append, he]; omega
      · simp [he]
    · intro p q hpq hq
      simp only [encG]
      split <;> split <;> rename_i h1 h2
      · exact D _ _ (by omega) h2.2
      · have := C (p + 1) 0 h1.2 (by decide)
        rw [List.length_append, he]; omega
      · exact absurd ⟨h2.1, by omega⟩ h1
      · simp [he]
theorem encG_rep : ∀ (j k : Nat) (x : Int) (l : List Int), k + j < 256 → encG k (List.replicate j x ++ x :: l) = encG (k + j) (x :: l)
  | 0, k, x, l, _ => rfl
  | j + 1, k, x, l, h => by
    rw [show List.replicate (j + 1) x ++ x :: l = x :: (List.replicate j x ++ x :: l) by rw [List.replicate_succ]; rfl, encG, if_pos ⟨by cases j <;> simp [List.replicate_succ], by omega⟩, encG_rep j (k + 1) x l (by omega), show k + 1 + j = k + (j + 1) by omega]
theorem encG_run {j : Nat} {x : Int} {l : List Int} (hj : j < 256) : (encG 0 (List.replicate (j + 1) x ++ l)).length ≤ 4 + (encG 0 l).length := by
  rw [← rep_app, encG_rep j 0 x l (by omega), encG]
  split
  · rename_i hc
    have := (encG_near l).1 (0 + j + 1) 0 hc.2 (by decide)
    omega
  · rw [List.length_append]; exact Nat.le_refl _
theorem decG_least {N : Nat} : ∀ (b out l : List Int), (∀ x ∈ b, 0 ≤ x ∧ x < 256) → decG N b out = some l → ∃ l', l = out ++ l' ∧ (encG 0 l').length ≤ b.length ∧ ∀ y ∈ l', 0 ≤ y ∧ y < 16777216
  | [], out, l, _, h => by
    simp only [decG] at h
    split at h
    · cases h; exact ⟨[], by simp, by simp [encG], by simp⟩
    · cases h
  | [_], _, _, _, h => by cases h
  | [_, _], _, _, _, h => by cases h
  | [_, _, _], _, _, _, h => by cases h
  | k :: x :: y :: z :: b, out, l, hb, h => by
    simp only [decG] at h
    split at h
    · obtain ⟨l', e, h1, h2⟩ := decG_least b _ l (fun z hz => hb z (by simp [hz])) h
      have b0 := hb k (by simp)
      have b1 := hb x (by simp)
      have b2 := hb y (by simp)
      have b3 := hb z (by simp)
      refine ⟨List.replicate (k.toNat + 1) (x * 65536 + y * 256 + z) ++ l', by rw [e, List.append_assoc], ?_, ?_⟩
      · have := encG_run (j := k.toNat) (x := x * 65536 + y * 256 + z) (l := l') (by omega)
        simp only [List.length_cons]; omega
      · intro w hw
        rcases List.mem_append.1 hw with hw | hw
        · rw [List.eq_of_mem_replicate hw]; omega
        · exact h2 w hw
    · cases h
theorem cutL_id {l : List Int} (h : ∀ y ∈ l, 0 ≤ y ∧ y < 16777216) : cutL l = l := by
  unfold cutL
  conv => rhs; rw [← List.map_id l]
  exact List.map_congr_left fun y hy => by have := h y hy; show y % 16777216 = y; omega
theorem decF_least {b l : List Int} {n : Int} (hb : ∀ x ∈ b, 0 ≤ x ∧ x < 256) (h : decF b n = (l, 0)) : n = l.length ∧ l.length ≤ 65536 ∧ cutL l = l ∧ (encF l).length ≤ b.length ∧ ∀ y ∈ l, 0 ≤ y ∧ y < 16777216 := by
  unfold decF at h
  split at h
  · cases h
  · split at h
    · rename_i hA l' hl'
      cases h
      have h1 := decG_length _ _ _ hl'
      obtain ⟨l2, e, h2, h3⟩ := decG_least b [] l hb hl'
      simp only [List.nil_append] at e
      subst e
      refine ⟨by omega, by omega, cutL_id h3, ?_, h3⟩
      show (encG 0 (cutL l)).length ≤ _
      rw [cutL_id h3]; exact h2
    · cases h
theorem decF_err {b l : List Int} {n e : Int} (he : e ≠ 0) (h : decF b n = (l, e)) : l = [] := by
  unfold decF at h
  split at h
  · cases h; rfl
  · split at h
    · cases h; exact absurd rfl he
    · cases h; rfl
theorem joins (a b : List Int) (h : a.length + b.length ≤ 65536) : decF (encF a ++ encF b) ((a ++ b).length : Nat) = (cutL (a ++ b), 0) := by
  have e : decG (a ++ b).length (encF a ++ encF b) [] = some (cutL (a ++ b)) := by
    show decG _ (encG 0 (cutL a) ++ encF b) [] = _
    rw [decG_enc0 (cutL a) [] cutL_bound (Nat.zero_le _), cutL_length, if_pos (by simp)]
    have h2 := decG_enc0 (N := (a ++ b).length) (rest := []) (cutL b) ([] ++ cutL a) cutL_bound (by simp [cutL_length])
    rw [List.append_nil] at h2
    show decG _ (encG 0 (cutL b)) _ = _
    rw [h2, if_pos (by simp [cutL_length])]
    simp only [decG]
    rw [if_pos (by simp [cutL_length])]
    simp [cutL]
  unfold decF
  rw [if_neg (by simp; omega), Int.toNat_natCast, e]
theorem joins_least (a b : List Int) (h : a.length + b.length ≤ 65536) : (encF (a ++ b)).length ≤ (encF a ++ encF b).length := by
  have h1 := decF_least (b := encF a ++ encF b) (fun x hx => by rcases List.mem_append.1 hx with h | h <;> exact encF_bound _ x h) (joins a b h)
  have e : encF (cutL (a ++ b)) = encF (a ++ b) := by
    show encG 0 (cutL (cutL (a ++ b))) = encG 0 (cutL (a ++ b))
    rw [h1.2.2.1]
  rw [← e]; exact h1.2.2.2.1
end Go.Proofs.Ytaioclggifdnhaa
