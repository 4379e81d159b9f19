/- Layer 12: the palette, plainly; sizes, places, colours walked. Layer 12: the reference's place, Colors, Encode. Layer 12: the reference's Encode. Layer 12: palette.Encode. Layer 12: Decode, plainly; palette.Decode. Layer 12: the reference's Decode. Layer 12: the laws' example; PaletteEncodes, PaletteDecodes. Layer 12: what is encoded is decoded, plainly. -/
import Derived.Test.YtaioclggifdnhaaGb
import Derived.Test.YtaioclggifdnhaaGr



set_option linter.unusedVariables false

set_option linter.unusedSimpArgs false

open Go.RowKit

namespace Go.Proofs.Ytaioclggifdnhaa

set_option maxRecDepth 10000

/-- How many bits an index has, of so many colours. -/
def sizeF (k : Nat) : Nat := if k = 1 then 0 else if k = 2 then 1 else if k ≤ 4 then 2 else 4
/-- The colours of pixels, in the order in which they come first. -/
def colsF : List Int → List Int → List Int
  | [], out => out
  | x :: l, out => if x ∈ out then colsF l out else colsF l (out ++ [x])
def cols (xs : List Int) : List Int := colsF (cutL xs) []
theorem colsF_le : ∀ (l out : List Int), out.length ≤ (colsF l out).length
  | [], _ => Nat.le_refl _
  | x :: l, out => by
    simp only [colsF]
    split
    · exact colsF_le l out
    · exact Nat.le_trans (by simp) (colsF_le l (out ++ [x]))
theorem colsF_ub : ∀ (l out : List Int), (colsF l out).length ≤ out.length + l.length
  | [], _ => by simp [colsF]
  | x :: l, out => by
    simp only [colsF]
    split
    · have := colsF_ub l out; simp; omega
    · have := colsF_ub l (out ++ [x]); simp at this ⊢; omega
theorem colsF_drop {l : List Int} {i : Nat} (out : List Int) (h : i < l.length) : colsF (l.drop i) out = colsF (l.drop (i + 1)) (if l.getD i 0 ∈ out then out else out ++ [l.getD i 0]) := by
  rw [List.drop_eq_getElem_cons h, getD_get h]
  simp only [colsF]
  split <;> rfl
theorem colsF_mem : ∀ (l out : List Int) (x : Int), x ∈ colsF l out ↔ x ∈ out ∨ x ∈ l
  | [], _, _ => by simp [colsF]
  | y :: l, out, x => by
    simp only [colsF]
    split
    · rename_i hy
      rw [colsF_mem l out x]
      constructor
      · rintro (h | h)
        · exact .inl h
        · exact .inr (by simp [h])
      · rintro (h | h)
        · exact .inl h
        · rcases List.mem_cons.1 h with rfl | h
          · exact .inl hy
          · exact .inr h
    · rw [colsF_mem l _ x]
      simp [or_assoc]
theorem colsF_nodup : ∀ (l out : List Int), out.Nodup → (colsF l out).Nodup
  | [], _, h => h
  | x :: l, out, h => by
    simp only [colsF]
    split
    · exact colsF_nodup l out h
    · rename_i hx
      refine colsF_nodup l _ (List.nodup_append.2 ⟨h, by simp, fun a ha b hb e => ?_⟩)
      obtain rfl := List.mem_singleton.1 hb
      exact hx (e ▸ ha)
theorem cols_bound (xs : List Int) : ∀ x ∈ cols xs, 0 ≤ x ∧ x < 16777216 := fun x h => by
  rcases (colsF_mem _ _ _).1 h with h | h
  · cases h
  · exact cutL_bound x h
theorem cols_length (xs : List Int) : (cols xs).length ≤ xs.length := by
  have := colsF_ub (cutL xs) []
  rw [cutL_length] at this
  simpa [cols] using this

theorem psize_call {k : Int} {Kp} (hk : 1 ≤ k ∧ k ≤ 1000000) : CallA Try.prog 32 [.int .i64 k] [] (fun r M => r = .int .i64 (sizeF k.toNat) ∧ M = []) Kp := by
  refine step32 (fun _ => []) [] rfl ?_
  repeat ((conv => whnf); first | with_reducible refine O_step ?_ | with_reducible refine S_step ?_ | with_reducible refine D_step ?_ | with_reducible refine RO.exit ?_ | with_reducible refine RO.ret ?_ | ((with_reducible refine And.intro ?sc ?_); case sc => exact side) | ((with_reducible refine br_f ?sc ?_); case sc => exact sideB) | ((with_reducible refine br_t ?sc ?_); case sc => exact sideB))
  refine And.intro (fun h1 => ?_) (fun h1 => ?_)
  · obtain rfl : k = 1 := of_decide_eq_true h1
    repeat ((conv => whnf); first | with_reducible refine O_step ?_ | with_reducible refine S_step ?_ | with_reducible refine D_step ?_ | with_reducible refine RO.exit ?_ | with_reducible refine RO.ret ?_ | ((with_reducible refine And.intro ?sc ?_); case sc => exact side) | ((with_reducible refine br_f ?sc ?_); case sc => exact sideB) | ((with_reducible refine br_t ?sc ?_); case sc => exact sideB))
    exact rfl
  · have h1' : ¬ k = 1 := of_decide_eq_false h1
    repeat ((conv => whnf); first | with_reducible refine O_step ?_ | with_reducible refine S_step ?_ | with_reducible refine D_step ?_ | with_reducible refine RO.exit ?_ | with_reducible refine RO.ret ?_ | ((with_reducible refine And.intro ?sc ?_); case sc => exact side) | ((with_reducible refine br_f ?sc ?_); case sc => exact sideB) | ((with_reducible refine br_t ?sc ?_); case sc => exact sideB))
    refine And.intro (fun h2 => ?_) (fun h2 => ?_)
    · obtain rfl : k = 2 := of_decide_eq_true h2
      repeat ((conv => whnf); first | with_reducible refine O_step ?_ | with_reducible refine S_step ?_ | with_reducible refine D_step ?_ | with_reducible refine RO.exit ?_ | with_reducible refine RO.ret ?_ | ((with_reducible refine And.intro ?sc ?_); case sc => exact side) | ((with_reducible refine br_f ?sc ?_); case sc => exact sideB) | ((with_reducible refine br_t ?sc ?_); case sc => exact sideB))
      exact rfl
    · have h2' : ¬ k = 2 := of_decide_eq_false h2
      repeat ((conv => whnf); first | with_reducible refine O_step ?_ | with_reducible refine S_step ?_ | with_reducible refine D_step ?_ | with_reducible refine RO.exit ?_ | with_reducible refine RO.ret ?_ | ((with_reducible refine And.intro ?sc ?_); case sc => exact side) | ((with_reducible refine br_f ?sc ?_); case sc => exact sideB) | ((with_reducible refine br_t ?sc ?_); case sc => exact sideB))
      refine And.intro (fun h3 => ?_) (fun h3 => ?_)
      · have h3' : k ≤ 4 := of_decide_eq_true h3
        have e : sizeF k.toNat = 2 := by unfold sizeF; rw [if_neg (by omega), if_neg (by omega), if_pos (by omega)]
        rw [e]
        repeat ((conv => whnf); first | with_reducible refine O_step ?_ | with_reducible refine S_step ?_ | with_reducible refine D_step ?_ | with_reducible refine RO.exit ?_ | with_reducible refine RO.ret ?_ | ((with_reducible refine And.intro ?sc ?_); case sc => exact side) | ((with_reducible refine br_f ?sc ?_); case sc => exact sideB) | ((with_reducible refine br_t ?sc ?_); case sc => exact sideB))
        exact rfl
      · have h3' : ¬ k ≤ 4 := of_decide_eq_false h3
        have e : sizeF k.toNat = 4 := by unfold sizeF; rw [if_neg (by omega), if_neg (by omega), if_neg (by omega)]
        rw [e]
        repeat ((conv => whnf); first | with_reducible refine O_step ?_ | with_reducible refine S_step ?_ | with_reducible refine D_step ?_ | with_reducible refine RO.exit ?_ | with_reducible refine RO.ret ?_ | ((with_reducible refine And.intro ?sc ?_); case sc => exact side) | ((with_reducible refine br_f ?sc ?_); case sc => exact sideB) | ((with_reducible refine br_t ?sc ?_); case sc => exact sideB))
        exact rfl

theorem shl1_i64 {n : Nat} (hn : n < 60) : shlF .i64 1 (n : Int) = 2 ^ n := by
  unfold shlF
  rw [show min (n : Int).toNat (IntKind.bits .i64) = n by show min n 64 = n; omega, Int.one_mul]
  have h1 : (2 : Int) ^ n = ((2 ^ n : Nat) : Int) := by push_cast; rfl
  have h2 : 2 ^ n < 2 ^ 60 := Nat.pow_lt_pow_right (by decide) hn
  rw [h1]
  exact i64_wrap (by omega)
/-- The reference's size: up to 16. -/
theorem rsize_call {k : Int} {Kp} (hk : 1 ≤ k ∧ k ≤ 16) : CallA Try.prog 27 [.int .i64 k] [] (fun r M => r = .int .i64 (sizeF k.toNat) ∧ M = []) Kp := by
  refine step27 (fun _ => []) [] rfl ?_
  repeat ((conv => whnf); first | with_reducible refine O_step ?_ | with_reducible refine S_step ?_ | with_reducible refine D_step ?_ | with_reducible refine RO.exit ?_ | with_reducible refine RO.ret ?_ | ((with_reducible refine And.intro ?sc ?_); case sc => exact side) | ((with_reducible refine br_f ?sc ?_); case sc => exact sideB) | ((with_reducible refine br_t ?sc ?_); case sc => exact sideB))
  refine WO.go (σ := Nat) (fun n => n ≤ 4 ∧ (n = 0 ∨ (2 : Int) ^ (n - 1) < k)) (fun n => 5 - n) (fun n => [(0, .int .i64 k), (3, .int .i64 n)]) (fun _ => []) 0 tb_ok mixed (by kernel_rfl)
    ⟨Nat.zero_le _, .inl rfl⟩ (And.intro rfl (And.intro rfl (trivial))) (subA_refl _) (fun _ => rfl) (fun _ => rfl) (fun _ => trivial) ?_
  rintro n ⟨h1, h2⟩ d
  have hs := shl1_i64 (n := n) (by omega)
  repeat ((conv => whnf); first | with_reducible refine O_step ?_ | with_reducible refine S_step ?_ | with_reducible refine D_step ?_ | with_reducible refine RO.exit ?_ | with_reducible refine RO.ret ?_ | ((with_reducible refine And.intro ?sc ?_); case sc => exact side) | ((with_reducible refine br_f ?sc ?_); case sc => exact sideB) | ((with_reducible refine br_t ?sc ?_); case sc => exact sideB))
  rw [hs]
  refine And.intro (fun hc => ?_) (fun hc => ?_)
  · have hc' : (2 : Int) ^ n < k := of_decide_eq_true hc
    have hn4 : n ≠ 4 := by rintro rfl; simp at hc'; omega
    repeat ((conv => whnf); first | with_reducible refine O_step ?_ | with_reducible refine S_step ?_ | with_reducible refine D_step ?_ | with_reducible refine RO.exit ?_ | with_reducible refine RO.ret ?_ | ((with_reducible refine And.intro ?sc ?_); case sc => exact side) | ((with_reducible refine br_f ?sc ?_); case sc => exact sideB) | ((with_reducible refine br_t ?sc ?_); case sc => exact sideB))
    exact RO.same (n + 1) ⟨by omega, .inr hc'⟩ (show 5 - (n + 1) < 5 - n by omega) (And.intro rfl (And.intro rfl (trivial))) (subA_refl _)
  · have hc' : ¬ (2 : Int) ^ n < k := of_decide_eq_false hc
    have hsz : sizeF k.toNat = if n = 3 then 4 else n := by
      unfold sizeF
      match n, h1, h2, hc' with
      | 0, _, _, hc' => simp at hc'; rw [if_pos (by omega)]; rfl
      | 1, _, h2, hc' => simp at hc' h2; rw [if_neg (by omega), if_pos (by omega)]; rfl
      | 2, _, h2, hc' => simp at hc' h2; rw [if_neg (by omega), if_neg (by omega), if_pos (by omega)]; rfl
      | 3, _, h2, hc' => simp at hc' h2; rw [if_neg (by omega), if_neg (by omega), if_neg (by omega)]; rfl
      | 4, _, h2, hc' => simp at hc' h2; rw [if_neg (by omega), if_neg (by omega), if_neg (by omega)]; rfl
      | n + 5, h1, _, _ => omega
    repeat ((conv => whnf); first | with_reducible refine O_step ?_ | with_reducible refine S_step ?_ | with_reducible refine D_step ?_ | with_reducible refine RO.exit ?_ | with_reducible refine RO.ret ?_ | ((with_reducible refine And.intro ?sc ?_); case sc => exact side) | ((with_reducible refine br_f ?sc ?_); case sc => exact sideB) | ((with_reducible refine br_t ?sc ?_); case sc => exact sideB))
    refine And.intro (fun hd => ?_) (fun hd => ?_)
    · have hd' : n = 3 := by have := of_decide_eq_true hd; omega
      rw [hsz, if_pos hd']
      repeat ((conv => whnf); first | with_reducible refine O_step ?_ | with_reducible refine S_step ?_ | with_reducible refine D_step ?_ | with_reducible refine RO.exit ?_ | with_reducible refine RO.ret ?_ | ((with_reducible refine And.intro ?sc ?_); case sc => exact side) | ((with_reducible refine br_f ?sc ?_); case sc => exact sideB) | ((with_reducible refine br_t ?sc ?_); case sc => exact sideB))
      exact rfl
    · have hd' : n ≠ 3 := by have := of_decide_eq_false hd; omega
      rw [hsz, if_neg hd']
      repeat ((conv => whnf); first | with_reducible refine O_step ?_ | with_reducible refine S_step ?_ | with_reducible refine D_step ?_ | with_reducible refine RO.exit ?_ | with_reducible refine RO.ret ?_ | ((with_reducible refine And.intro ?sc ?_); case sc => exact side) | ((with_reducible refine br_f ?sc ?_); case sc => exact sideB) | ((with_reducible refine br_t ?sc ?_); case sc => exact sideB))
      exact rfl
theorem psize_at {k : Int} {M : AH} {K Kp : AV → AH → Prop} (hk : 1 ≤ k ∧ k ≤ 1000000) (h : K (.int .i64 (sizeF k.toNat)) M) : CallA Try.prog 32 [.int .i64 k] M K Kp :=
  CallA.at0 (psize_call hk) (fun _ => rfl) rfl (fun _ => rfl) h
theorem rsize_at {k : Int} {M : AH} {K Kp : AV → AH → Prop} (hk : 1 ≤ k ∧ k ≤ 16) (h : K (.int .i64 (sizeF k.toNat)) M) : CallA Try.prog 27 [.int .i64 k] M K Kp :=
  CallA.at0 (rsize_call hk) (fun _ => rfl) rfl (fun _ => rfl) h
end Go.Proofs.Ytaioclggifdnhaa


set_option linter.unusedVariables false

set_option linter.unusedSimpArgs false

open Go.RowKit

namespace Go.Proofs.Ytaioclggifdnhaa

set_option maxRecDepth 10000

theorem idxOf_take {l : List Int} {c : Int} : ∀ {i : Nat}, i ≤ l.length → c ∉ l.take i → (i = l.length ∨ l.getD i 0 = c) → l.idxOf c = i := by
  induction l with
  | nil => intro i h _ _; simp at h; simp [h]
  | cons x l ih =>
    intro i h h1 h2
    cases i with
    | zero =>
      rcases h2 with h2 | h2
      · simp at h2
      · simp at h2; simp [List.idxOf_cons, h2]
    | succ i =>
      simp only [List.take_succ_cons, List.mem_cons, not_or] at h1
      have hne : (x == c) = false := by simpa using fun e => h1.1 e.symm
      rw [List.idxOf_cons, hne]
      have := ih (i := i) (by simpa using h) h1.2 (by simpa using h2)
      simp [this]
theorem idxOf_len {l : List Int} {c : Int} : (l.idxOf c = l.length) ↔ c ∉ l := by
  constructor
  · intro h hm
    have := List.idxOf_lt_length_iff.2 hm
    omega
  · intro h
    exact List.idxOf_eq_length h

theorem place_call {l : List Int} {v : Int} {c0 c : Nat} (hl : l.length ≤ 1000000000) {Kp} :
    CallA Try.prog 35 [.sl 0 0 0 l.length c0, .int .u32 v] [.one false 0 (.ints .u32 l c)] (fun r M => r = .int .i64 (l.idxOf v) ∧ M = [.one false 0 (.ints .u32 l c)]) Kp := by
  refine step35 (fun _ => [0]) [] rfl ?_
  repeat ((conv => whnf); first | with_reducible refine O_step ?_ | with_reducible refine S_step ?_ | with_reducible refine D_step ?_ | with_reducible refine RO.exit ?_ | with_reducible refine RO.ret ?_ | ((with_reducible refine And.intro ?sc ?_); case sc => exact side) | ((with_reducible refine br_f ?sc ?_); case sc => exact sideB) | ((with_reducible refine br_t ?sc ?_); case sc => exact sideB))
  refine WO.go (σ := Nat) (fun i => i ≤ l.length ∧ v ∉ l.take i) (fun i => l.length - i) (fun i => [(0, .sl 0 0 0 l.length c0), (1, .int .u32 v), (5, .int .i64 i)]) (fun _ => [.one false 0 (.ints .u32 l c)]) 0 tb_ok mixed (by kernel_rfl)
    ⟨Nat.zero_le _, by simp⟩ (And.intro rfl (And.intro rfl (And.intro rfl (trivial)))) (And.intro rfl (trivial)) (fun _ => rfl) (fun _ => rfl) (fun _ => ⟨trivial, trivial⟩) ?_
  rintro i ⟨h1, h2⟩ d
  repeat ((conv => whnf); first | with_reducible refine O_step ?_ | with_reducible refine S_step ?_ | with_reducible refine D_step ?_ | with_reducible refine RO.exit ?_ | with_reducible refine RO.ret ?_ | ((with_reducible refine And.intro ?sc ?_); case sc => exact side) | ((with_reducible refine br_f ?sc ?_); case sc => exact sideB) | ((with_reducible refine br_t ?sc ?_); case sc => exact sideB))
  refine And.intro (fun hc => ?_) (fun hc => ?_)
  · have hc' : (i : Int) < l.length := of_decide_eq_true hc
    repeat ((conv => whnf); first | with_reducible refine O_step ?_ | with_reducible refine S_step ?_ | with_reducible refine D_step ?_ | with_reducible refine RO.exit ?_ | with_reducible refine RO.ret ?_ | ((with_reducible refine And.intro ?sc ?_); case sc => exact side) | ((with_reducible refine br_f ?sc ?_); case sc => exact sideB) | ((with_reducible refine br_t ?sc ?_); case sc => exact sideB))
    refine And.intro (fun hd => ?_) (fun hd => ?_)
    · have hd' : l.getD ((i : Int).toNat + 0) 0 ≠ v := nd_t hd
      replace hd' : l.getD i 0 ≠ v := hd'
      repeat ((conv => whnf); first | with_reducible refine O_step ?_ | with_reducible refine S_step ?_ | with_reducible refine D_step ?_ | with_reducible refine RO.exit ?_ | with_reducible refine RO.ret ?_ | ((with_reducible refine And.intro ?sc ?_); case sc => exact side) | ((with_reducible refine br_f ?sc ?_); case sc => exact sideB) | ((with_reducible refine br_t ?sc ?_); case sc => exact sideB))
      refine RO.same (i + 1) ⟨by omega, ?_⟩ (show l.length - (i + 1) < l.length - i by omega) (And.intro rfl (And.intro rfl (And.intro rfl (trivial)))) (And.intro rfl (trivial))
      rw [List.take_succ_eq_append_getElem (by omega)]
      rw [getD_get (by omega)] at hd'
      simp only [List.mem_append, List.mem_singleton, not_or]
      exact ⟨h2, fun e => hd' e.symm⟩
    · have hd' : l.getD i 0 = v := nd_f hd
      have e := idxOf_take h1 h2 (.inr hd')
      rw [e]
      repeat ((conv => whnf); first | with_reducible refine O_step ?_ | with_reducible refine S_step ?_ | with_reducible refine D_step ?_ | with_reducible refine RO.exit ?_ | with_reducible refine RO.ret ?_ | ((with_reducible refine And.intro ?sc ?_); case sc => exact side) | ((with_reducible refine br_f ?sc ?_); case sc => exact sideB) | ((with_reducible refine br_t ?sc ?_); case sc => exact sideB))
      exact rfl
  · have hc' : ¬ (i : Int) < l.length := of_decide_eq_false hc
    have e := idxOf_take h1 h2 (.inl (by omega))
    rw [e]
    repeat ((conv => whnf); first | with_reducible refine O_step ?_ | with_reducible refine S_step ?_ | with_reducible refine D_step ?_ | with_reducible refine RO.exit ?_ | with_reducible refine RO.ret ?_ | ((with_reducible refine And.intro ?sc ?_); case sc => exact side) | ((with_reducible refine br_f ?sc ?_); case sc => exact sideB) | ((with_reducible refine br_t ?sc ?_); case sc => exact sideB))
    exact rfl
theorem place_at {M : AH} {K Kp : AV → AH → Prop} {i g n c co : Nat} {o : Bool} {l : List Int} {v : Int} (hi : M[i]? = some (.one o g (.ints .u32 l co))) (hn : n = l.length) (hl : l.length ≤ 1000000000)
    (h : K (.int .i64 (l.idxOf v)) M) : CallA Try.prog 35 [.sl i g 0 n c, .int .u32 v] M K Kp := by
  subst hn
  refine CallA.lift [.win i g 0] (place_call (l := l) (c0 := c) (c := co) (v := v) (Kp := fun _ _ => False) hl) rfl rfl ⟨⟨_, _, _, rfl, slot_one hi, WinC.same rfl (fun h => h)⟩, trivial⟩ ⟨trivial, trivial⟩ ?_ (fun _ _ h => h.elim)
  rintro r M' ⟨rfl, rfl⟩
  rw [← List.append_nil M] at h
  exact ⟨⟨rfl, rfl⟩, h⟩

theorem rcolors_call {xs : List Int} {c0 c : Nat} (hx : xs.length ≤ 100000000) (h0 : ∀ x ∈ xs, 0 ≤ x ∧ x < 4294967296) {Kp} :
    CallA Try.prog 26 [.sl 0 0 0 xs.length c0] [.one false 0 (.ints .u32 xs c)]
      (fun r M => ∃ g' c', r = .sl 2 g' 0 (cols xs).length c' ∧ M = [.one false 0 (.ints .u32 xs c), .gone, .one true g' (.ints .u32 (cols xs) c')] ∧ (cols xs).length ≤ c') Kp := by
  refine CallA.post_sub ?_
  refine step26 (fun _ => [1]) [] rfl ?_
  repeat ((conv => whnf); first | with_reducible refine O_step ?_ | with_reducible refine S_step ?_ | with_reducible refine D_step ?_ | with_reducible refine RO.exit ?_ | with_reducible refine RO.ret ?_ | ((with_reducible refine And.intro ?sc ?_); case sc => exact side) | ((with_reducible refine br_f ?sc ?_); case sc => exact sideB) | ((with_reducible refine br_t ?sc ?_); case sc => exact sideB))
  refine rcut_at (i := 0) rfl rfl (by omega) h0 (fun g1 c1 hc1 => ?_)
  have hL := cutL_length xs
  repeat ((conv => whnf); first | with_reducible refine O_step ?_ | with_reducible refine S_step ?_ | with_reducible refine D_step ?_ | with_reducible refine RO.exit ?_ | with_reducible refine RO.ret ?_ | ((with_reducible refine And.intro ?sc ?_); case sc => exact side) | ((with_reducible refine br_f ?sc ?_); case sc => exact sideB) | ((with_reducible refine br_t ?sc ?_); case sc => exact sideB))
  refine WO.gov (σ := Nat × Nat × Nat × List Int) (fun (j, g, cc, ys) => j ≤ xs.length ∧ ys.length ≤ cc ∧ ys.length ≤ j ∧ cols xs = colsF ((cutL xs).drop j) ys) (fun (j, _) => xs.length - j)
    (fun (j, g, cc, ys) => [(3, .sl 1 g1 0 (cutL xs).length c1), (4, .sl 2 g 0 ys.length cc), (5, .int .i64 j)])
    (fun (j, g, cc, ys) => [.one false 0 (.ints .u32 xs c), .one true g1 (.ints .u32 (cutL xs) c1), .one true g (.ints .u32 ys cc)]) (0, 0, 0, []) tb_ok mixed (by kernel_rfl)
    [(3, .sl 1 g1 0 (cutL xs).length c1), (4, .ns), (5, .int .i64 0)] _ ⟨Nat.zero_le _, Nat.zero_le _, Nat.zero_le _, rfl⟩ (And.intro rfl (And.intro rfl (And.intro rfl (trivial)))) rfl (Vw.nils (x := .ints .u32 [] 0) ⟨rfl, rfl⟩ ?_) (And.intro rfl (And.intro rfl (And.intro rfl (trivial)))) (fun _ => rfl) (fun _ => rfl) (fun _ => ⟨trivial, trivial, trivial, trivial⟩) ?_
  · exact And.intro (.inl rfl) (And.intro (.inr ⟨rfl, rfl⟩) (And.intro (.inl rfl) trivial))
  rintro ⟨j, g, cc, ys⟩ ⟨h1, h2, h3, h4⟩ d
  repeat ((conv => whnf); first | with_reducible refine O_step ?_ | with_reducible refine S_step ?_ | with_reducible refine D_step ?_ | with_reducible refine RO.exit ?_ | with_reducible refine RO.ret ?_ | ((with_reducible refine And.intro ?sc ?_); case sc => exact side) | ((with_reducible refine br_f ?sc ?_); case sc => exact sideB) | ((with_reducible refine br_t ?sc ?_); case sc => exact sideB))
  refine And.intro (fun hc => ?_) (fun hc => ?_)
  · have hj : j < xs.length := by have := of_decide_eq_true hc; omega
    have hdr := colsF_drop (l := cutL xs) (i := j) ys (by omega)
    repeat ((conv => whnf); first | with_reducible refine O_step ?_ | with_reducible refine S_step ?_ | with_reducible refine D_step ?_ | with_reducible refine RO.exit ?_ | with_reducible refine RO.ret ?_ | ((with_reducible refine And.intro ?sc ?_); case sc => exact side) | ((with_reducible refine br_f ?sc ?_); case sc => exact sideB) | ((with_reducible refine br_t ?sc ?_); case sc => exact sideB))
    rw [show ((j : Int).toNat + 0) = j from rfl]
    refine place_at (i := 2) rfl rfl (by omega) ?_
    repeat ((conv => whnf); first | with_reducible refine O_step ?_ | with_reducible refine S_step ?_ | with_reducible refine D_step ?_ | with_reducible refine RO.exit ?_ | with_reducible refine RO.ret ?_ | ((with_reducible refine And.intro ?sc ?_); case sc => exact side) | ((with_reducible refine br_f ?sc ?_); case sc => exact sideB) | ((with_reducible refine br_t ?sc ?_); case sc => exact sideB))
    refine And.intro (fun hd => ?_) (fun hd => ?_)
    · have hd' : (cutL xs).getD j 0 ∉ ys := idxOf_len.1 (by have := of_decide_eq_true hd; omega)
      rw [if_neg hd'] at hdr
      repeat ((conv => whnf); first | with_reducible refine O_step ?_ | with_reducible refine S_step ?_ | with_reducible refine D_step ?_ | with_reducible refine RO.exit ?_ | with_reducible refine RO.ret ?_ | ((with_reducible refine And.intro ?sc ?_); case sc => exact side) | ((with_reducible refine br_f ?sc ?_); case sc => exact sideB) | ((with_reducible refine br_t ?sc ?_); case sc => exact sideB))
      intro zs hzs
      have hz : zs = [(cutL xs).getD j 0] := by rw [hzs]; rfl
      subst hz
      repeat ((conv => whnf); first | with_reducible refine O_step ?_ | with_reducible refine S_step ?_ | with_reducible refine D_step ?_ | with_reducible refine RO.exit ?_ | with_reducible refine RO.ret ?_ | ((with_reducible refine And.intro ?sc ?_); case sc => exact side) | ((with_reducible refine br_f ?sc ?_); case sc => exact sideB) | ((with_reducible refine br_t ?sc ?_); case sc => exact sideB))
      intro c2 hc2
      repeat ((conv => whnf); first | with_reducible refine O_step ?_ | with_reducible refine S_step ?_ | with_reducible refine D_step ?_ | with_reducible refine RO.exit ?_ | with_reducible refine RO.ret ?_ | ((with_reducible refine And.intro ?sc ?_); case sc => exact side) | ((with_reducible refine br_f ?sc ?_); case sc => exact sideB) | ((with_reducible refine br_t ?sc ?_); case sc => exact sideB))
      exact RO.same (j + 1, g + 1, c2, ys ++ [(cutL xs).getD j 0]) ⟨by omega, by simp; omega, by simp; omega, by rw [h4, hdr]⟩ (show xs.length - (j + 1) < xs.length - j by omega) (And.intro rfl (And.intro (by simp only [List.length_append]; rfl) (And.intro rfl trivial))) (And.intro rfl (And.intro rfl (And.intro rfl (subA_nil _))))
    · have hd' : (cutL xs).getD j 0 ∈ ys := by
        have := of_decide_eq_false hd
        by_cases hm : (cutL xs).getD j 0 ∈ ys
        · exact hm
        · exact absurd (congrArg (fun (z : Nat) => (z : Int)) (idxOf_len.2 hm)) this
      rw [if_pos hd'] at hdr
      repeat ((conv => whnf); first | with_reducible refine O_step ?_ | with_reducible refine S_step ?_ | with_reducible refine D_step ?_ | with_reducible refine RO.exit ?_ | with_reducible refine RO.ret ?_ | ((with_reducible refine And.intro ?sc ?_); case sc => exact side) | ((with_reducible refine br_f ?sc ?_); case sc => exact sideB) | ((with_reducible refine br_t ?sc ?_); case sc => exact sideB))
      exact RO.same (j + 1, g, cc, ys) ⟨by omega, h2, by omega, by rw [h4, hdr]⟩ (show xs.length - (j + 1) < xs.length - j by omega) (And.intro rfl (And.intro rfl (And.intro rfl (trivial)))) (And.intro rfl (And.intro rfl (And.intro rfl (trivial))))
  · have hc' : ¬ (j : Int) < (cutL xs).length := of_decide_eq_false hc
    have e : ys = cols xs := by rw [h4, List.drop_of_length_le (by omega)]; rfl
    subst e
    repeat ((conv => whnf); first | with_reducible refine O_step ?_ | with_reducible refine S_step ?_ | with_reducible refine D_step ?_ | with_reducible refine RO.exit ?_ | with_reducible refine RO.ret ?_ | ((with_reducible refine And.intro ?sc ?_); case sc => exact side) | ((with_reducible refine br_f ?sc ?_); case sc => exact sideB) | ((with_reducible refine br_t ?sc ?_); case sc => exact sideB))
    exact ⟨[.one false 0 (.ints .u32 xs c), .gone, .one true g (.ints .u32 (cols xs) cc)], And.intro rfl (And.intro trivial (And.intro rfl trivial)), ⟨trivial, trivial, trivial, trivial⟩, rfl, g, cc, rfl, rfl, h2⟩
theorem rcolors_at {M : AH} {K Kp : AV → AH → Prop} {i g n c co : Nat} {o : Bool} {xs : List Int} (hi : M[i]? = some (.one o g (.ints .u32 xs co))) (hn : n = xs.length) (hx : xs.length ≤ 100000000) (h0 : ∀ x ∈ xs, 0 ≤ x ∧ x < 4294967296)
    (h : ∀ g' c', (cols xs).length ≤ c' → K (.sl (M.length + 1) g' 0 (cols xs).length c') (M ++ [.gone, .one true g' (.ints .u32 (cols xs) c')])) : CallA Try.prog 26 [.sl i g 0 n c] M K Kp := by
  subst hn
  refine CallA.lift [.win i g 0] (rcolors_call (xs := xs) (c0 := c) (c := co) (Kp := fun _ _ => False) hx h0) rfl rfl ⟨⟨_, _, _, rfl, slot_one hi, WinC.same rfl (fun h => h)⟩, trivial⟩ ⟨trivial, trivial⟩ ?_ (fun _ _ h => h.elim)
  rintro r M' ⟨g', c', rfl, rfl, hc'⟩
  exact ⟨⟨rfl, rfl⟩, h g' c' hc'⟩
theorem rbits_at {M : AH} {K Kp : AV → AH → Prop} {v n : Int} (hv : 0 ≤ v ∧ v < 4294967296) (hn : n ≤ 1000000)
    (h : ∀ g c, (bitsOf v n.toNat).length ≤ c → K (.sl M.length g 0 (bitsOf v n.toNat).length c) (M ++ [.one true g (.bools (bitsOf v n.toNat) c)])) : CallA Try.prog 34 [.int .u32 v, .int .i64 n] M K Kp := by
  refine CallA.lift [] (rbits_call (Kp := fun _ _ => False) hv hn) rfl rfl trivial trivial ?_ (fun _ _ h => h.elim)
  rintro r M' ⟨g, c, rfl, rfl, hc⟩
  exact ⟨rfl, h g c hc⟩
end Go.Proofs.Ytaioclggifdnhaa


set_option linter.unusedVariables false

set_option linter.unusedSimpArgs false

open Go.RowKit

namespace Go.Proofs.Ytaioclggifdnhaa

set_option maxRecDepth 10000

/-- A colour's bytes. -/
def b3 (x : Int) : List Int := [x / 65536, x / 256 % 256, x % 256]
/-- The indices of pixels, as bits. -/
def rowF (xs : List Int) : List Bool := (cutL xs).flatMap fun c => bitsOf ((cols xs).idxOf c : Nat) (sizeF (cols xs).length)
def palB (xs : List Int) : List Int := (((cols xs).length : Int) - 1) :: ((cols xs).flatMap b3 ++ bytesF (rowF xs))
def palN (xs : List Int) : Prop := (cols xs).length = 0 ∨ 16 < (cols xs).length
theorem b3_of {x : Int} (hx : 0 ≤ x ∧ x < 16777216) : List.take 3 (List.drop 0 [x.tdiv 65536 % 4294967296 % 256, (x.tdiv 256 % 4294967296).tmod 256 % 256, x.tmod 256 % 256]) = b3 x := by
  have h1 : x.tdiv 65536 = x / 65536 := Int.tdiv_eq_ediv_of_nonneg hx.1
  have h2 : x.tdiv 256 = x / 256 := Int.tdiv_eq_ediv_of_nonneg hx.1
  have h3 : x.tmod 256 = x % 256 := Int.tmod_eq_emod_of_nonneg hx.1
  have h4 : (x / 256 % 4294967296).tmod 256 = x / 256 % 4294967296 % 256 := Int.tmod_eq_emod_of_nonneg (by omega)
  rw [h1, h2, h3, h4]
  show [_, _, _] = [_, _, _]
  rw [show x / 65536 % 4294967296 % 256 = x / 65536 by omega, show x / 256 % 4294967296 % 256 % 256 = x / 256 % 256 by omega, show x % 256 % 256 = x % 256 by omega]
theorem b3_length (x : Int) : (b3 x).length = 3 := rfl
theorem flat3_length (l : List Int) : (l.flatMap b3).length = 3 * l.length := by
  induction l with
  | nil => rfl
  | cons x l ih => rw [List.flatMap_cons, List.length_append, ih, b3_length]; simp; omega
theorem flatBits_length (l : List Int) (f : Int → Int) (s : Nat) : (l.flatMap fun c => bitsOf (f c) s).length = l.length * s := by
  induction l with
  | nil => simp
  | cons x l ih => rw [List.flatMap_cons, List.length_append, ih, bitsOf_length]; simp [Nat.add_mul]; omega
theorem sizeF_le (k : Nat) : sizeF k ≤ 4 := by unfold sizeF; split <;> (try split) <;> (try split) <;> omega
theorem rowF_length (xs : List Int) : (rowF xs).length = xs.length * sizeF (cols xs).length := by
  unfold rowF; rw [flatBits_length, cutL_length]

theorem rpenc_call {xs : List Int} {c0 c : Nat} (hx : xs.length ≤ 1000000) (h0 : ∀ x ∈ xs, 0 ≤ x ∧ x < 4294967296) {Kp} :
    CallA Try.prog 22 [.sl 0 0 0 xs.length c0] [.one false 0 (.ints .u32 xs c)]
      (fun r M => (palN xs ∧ r = .tup [.ns, .bo false] ∧ M = [.one false 0 (.ints .u32 xs c)]) ∨
        (¬ palN xs ∧ ∃ g' c', r = .tup [.sl 3 g' 0 (palB xs).length c', .bo true] ∧ M = [.one false 0 (.ints .u32 xs c), .gone, .gone, .one true g' (.ints .u8 (palB xs) c')] ∧ (palB xs).length ≤ c')) Kp := by
  refine CallA.post_sub ?_
  refine step22 (fun _ => [2]) [] rfl ?_
  repeat ((conv => whnf); first | with_reducible refine O_step ?_ | with_reducible refine S_step ?_ | with_reducible refine D_step ?_ | with_reducible refine RO.exit ?_ | with_reducible refine RO.ret ?_ | ((with_reducible refine And.intro ?sc ?_); case sc => exact side) | ((with_reducible refine br_f ?sc ?_); case sc => exact sideB) | ((with_reducible refine br_t ?sc ?_); case sc => exact sideB))
  refine rcolors_at (i := 0) rfl rfl (by omega) h0 (fun g1 c1 hc1 => ?_)
  have hL := cutL_length xs
  have hcl := cols_length xs
  have hcb := cols_bound xs
  obtain ⟨C, hC⟩ : ∃ C, C = cols xs := ⟨_, rfl⟩
  rw [← hC] at hcl hcb hc1 ⊢
  repeat ((conv => whnf); first | with_reducible refine O_step ?_ | with_reducible refine S_step ?_ | with_reducible refine D_step ?_ | with_reducible refine RO.exit ?_ | with_reducible refine RO.ret ?_ | ((with_reducible refine And.intro ?sc ?_); case sc => exact side) | ((with_reducible refine br_f ?sc ?_); case sc => exact sideB) | ((with_reducible refine br_t ?sc ?_); case sc => exact sideB))
  refine And.intro (fun hA => ?_) (fun hA => ?_)
  · have hA' : (C.length : Int) = 0 := of_decide_eq_true hA
    repeat ((conv => whnf); first | with_reducible refine O_step ?_ | with_reducible refine S_step ?_ | with_reducible refine D_step ?_ | with_reducible refine RO.exit ?_ | with_reducible refine RO.ret ?_ | ((with_reducible refine And.intro ?sc ?_); case sc => exact side) | ((with_reducible refine br_f ?sc ?_); case sc => exact sideB) | ((with_reducible refine br_t ?sc ?_); case sc => exact sideB))
    exact ⟨[.one false 0 (.ints .u32 xs c)], And.intro rfl (subA_nil _), ⟨trivial, trivial⟩, rfl, Or.inl ⟨Or.inl (by rw [← hC]; omega), rfl, rfl⟩⟩
  · have hA' : ¬ (C.length : Int) = 0 := of_decide_eq_false hA
    repeat ((conv => whnf); first | with_reducible refine O_step ?_ | with_reducible refine S_step ?_ | with_reducible refine D_step ?_ | with_reducible refine RO.exit ?_ | with_reducible refine RO.ret ?_ | ((with_reducible refine And.intro ?sc ?_); case sc => exact side) | ((with_reducible refine br_f ?sc ?_); case sc => exact sideB) | ((with_reducible refine br_t ?sc ?_); case sc => exact sideB))
    refine And.intro (fun hB => ?_) (fun hB => ?_)
    · have hB' : (16 : Int) < C.length := of_decide_eq_true hB
      repeat ((conv => whnf); first | with_reducible refine O_step ?_ | with_reducible refine S_step ?_ | with_reducible refine D_step ?_ | with_reducible refine RO.exit ?_ | with_reducible refine RO.ret ?_ | ((with_reducible refine And.intro ?sc ?_); case sc => exact side) | ((with_reducible refine br_f ?sc ?_); case sc => exact sideB) | ((with_reducible refine br_t ?sc ?_); case sc => exact sideB))
      exact ⟨[.one false 0 (.ints .u32 xs c)], And.intro rfl (subA_nil _), ⟨trivial, trivial⟩, rfl, Or.inl ⟨Or.inr (by rw [← hC]; omega), rfl, rfl⟩⟩
    · have hB' : ¬ (16 : Int) < C.length := of_decide_eq_false hB
      have hok : ¬ palN xs := by unfold palN; rw [← hC]; omega
      repeat ((conv => whnf); first | with_reducible refine O_step ?_ | with_reducible refine S_step ?_ | with_reducible refine D_step ?_ | with_reducible refine RO.exit ?_ | with_reducible refine RO.ret ?_ | ((with_reducible refine And.intro ?sc ?_); case sc => exact side) | ((with_reducible refine br_f ?sc ?_); case sc => exact sideB) | ((with_reducible refine br_t ?sc ?_); case sc => exact sideB))
      rw [show ((C.length : Int) - 1) % 256 = (C.length : Int) - 1 by omega]
      refine WO.go (σ := Nat × Nat × Nat × List Int) (fun (i, g, cc, ys) => i ≤ C.length ∧ ys.length ≤ cc ∧ ys = ((C.length : Int) - 1) :: (C.take i).flatMap b3) (fun (i, _) => C.length - i)
        (fun (i, g, cc, ys) => [(0, .sl 0 0 0 xs.length c0), (4, .sl 2 g1 0 C.length c1), (5, .sl 3 g 0 ys.length cc), (6, .int .i64 i)])
        (fun (i, g, cc, ys) => [.one false 0 (.ints .u32 xs c), .gone, .one true g1 (.ints .u32 C c1), .one true g (.ints .u8 ys cc)]) (0, 0, 1, [(C.length : Int) - 1]) tb_ok mixed (by kernel_rfl)
        ⟨Nat.zero_le _, Nat.le_refl _, rfl⟩ (And.intro rfl (And.intro rfl (And.intro rfl (And.intro rfl (trivial))))) (And.intro rfl (And.intro trivial (And.intro rfl (And.intro rfl (trivial))))) (fun _ => rfl) (fun _ => rfl) (fun _ => ⟨trivial, trivial, trivial, trivial, trivial⟩) ?_
      rintro ⟨i, g, cc, ys⟩ ⟨h1, h2, h3⟩ d
      have hyl : ys.length = 1 + 3 * i := by rw [h3]; simp only [List.length_cons]; rw [flat3_length, List.length_take]; omega
      repeat ((conv => whnf); first | with_reducible refine O_step ?_ | with_reducible refine S_step ?_ | with_reducible refine D_step ?_ | with_reducible refine RO.exit ?_ | with_reducible refine RO.ret ?_ | ((with_reducible refine And.intro ?sc ?_); case sc => exact side) | ((with_reducible refine br_f ?sc ?_); case sc => exact sideB) | ((with_reducible refine br_t ?sc ?_); case sc => exact sideB))
      refine And.intro (fun hD => ?_) (fun hD => ?_)
      · have hD' : (i : Int) < C.length := of_decide_eq_true hD
        repeat ((conv => whnf); first | with_reducible refine O_step ?_ | with_reducible refine S_step ?_ | with_reducible refine D_step ?_ | with_reducible refine RO.exit ?_ | with_reducible refine RO.ret ?_ | ((with_reducible refine And.intro ?sc ?_); case sc => exact side) | ((with_reducible refine br_f ?sc ?_); case sc => exact sideB) | ((with_reducible refine br_t ?sc ?_); case sc => exact sideB))
        intro zs hzs
        have hz : zs = b3 (C.getD i 0) := by rw [hzs]; exact b3_of (bget hcb i (by omega))
        subst hz
        repeat ((conv => whnf); first | with_reducible refine O_step ?_ | with_reducible refine S_step ?_ | with_reducible refine D_step ?_ | with_reducible refine RO.exit ?_ | with_reducible refine RO.ret ?_ | ((with_reducible refine And.intro ?sc ?_); case sc => exact side) | ((with_reducible refine br_f ?sc ?_); case sc => exact sideB) | ((with_reducible refine br_t ?sc ?_); case sc => exact sideB))
        intro c2 hc2
        repeat ((conv => whnf); first | with_reducible refine O_step ?_ | with_reducible refine S_step ?_ | with_reducible refine D_step ?_ | with_reducible refine RO.exit ?_ | with_reducible refine RO.ret ?_ | ((with_reducible refine And.intro ?sc ?_); case sc => exact side) | ((with_reducible refine br_f ?sc ?_); case sc => exact sideB) | ((with_reducible refine br_t ?sc ?_); case sc => exact sideB))
        refine RO.same (i + 1, g + 1, c2, ys ++ b3 (C.getD i 0)) ⟨by omega, by rw [List.length_append, b3_length]; exact hc2, ?_⟩ (show C.length - (i + 1) < C.length - i by omega) (And.intro rfl (And.intro rfl (And.intro (by rw [List.length_append]; rfl) (And.intro rfl trivial)))) (And.intro rfl (And.intro trivial (And.intro rfl (And.intro rfl (subA_nil _)))))
        rw [h3, List.take_succ_eq_append_getElem (by omega), List.flatMap_append, getD_get (by omega)]
        simp
      · have hD' : ¬ (i : Int) < C.length := of_decide_eq_false hD
        obtain rfl : i = C.length := by omega
        rw [List.take_length] at h3
        repeat ((conv => whnf); first | with_reducible refine O_step ?_ | with_reducible refine S_step ?_ | with_reducible refine D_step ?_ | with_reducible refine RO.exit ?_ | with_reducible refine RO.ret ?_ | ((with_reducible refine And.intro ?sc ?_); case sc => exact side) | ((with_reducible refine br_f ?sc ?_); case sc => exact sideB) | ((with_reducible refine br_t ?sc ?_); case sc => exact sideB))
        refine rcut_at (i := 0) rfl rfl (by omega) h0 (fun g3 c3 hc3 => ?_)
        repeat ((conv => whnf); first | with_reducible refine O_step ?_ | with_reducible refine S_step ?_ | with_reducible refine D_step ?_ | with_reducible refine RO.exit ?_ | with_reducible refine RO.ret ?_ | ((with_reducible refine And.intro ?sc ?_); case sc => exact side) | ((with_reducible refine br_f ?sc ?_); case sc => exact sideB) | ((with_reducible refine br_t ?sc ?_); case sc => exact sideB))
        refine WO.gov (σ := Nat × Nat × Nat × List Bool) (fun (j, g4, c4, row) => j ≤ xs.length ∧ row.length ≤ c4 ∧ row = ((cutL xs).take j).flatMap fun c => bitsOf (C.idxOf c : Nat) (sizeF C.length)) (fun (j, _) => xs.length - j)
          (fun (j, g4, c4, row) => [(4, .sl 2 g1 0 C.length c1), (5, .sl 3 g 0 ys.length cc), (7, .sl 4 g3 0 (cutL xs).length c3), (8, .sl 5 g4 0 row.length c4), (9, .int .i64 j)])
          (fun (j, g4, c4, row) => [.one false 0 (.ints .u32 xs c), .gone, .one true g1 (.ints .u32 C c1), .one true g (.ints .u8 ys cc), .one true g3 (.ints .u32 (cutL xs) c3), .one true g4 (.bools row c4)]) (0, 0, 0, []) tb_ok mixed (by kernel_rfl)
          [(4, .sl 2 g1 0 C.length c1), (5, .sl 3 g 0 ys.length cc), (7, .sl 4 g3 0 (cutL xs).length c3), (8, .ns), (9, .int .i64 0)] _ ⟨Nat.zero_le _, Nat.zero_le _, rfl⟩ (And.intro rfl (And.intro rfl (And.intro rfl (And.intro rfl (And.intro rfl (trivial)))))) rfl (Vw.nils (x := .bools [] 0) ⟨rfl, rfl⟩ ?_) (And.intro rfl (And.intro trivial (And.intro rfl (And.intro rfl (And.intro rfl (And.intro rfl (trivial))))))) (fun _ => rfl) (fun _ => rfl) (fun _ => ⟨trivial, trivial, trivial, trivial, trivial, trivial, trivial⟩) ?_
        · exact And.intro (.inl rfl) (And.intro (.inl rfl) (And.intro (.inl rfl) (And.intro (.inr ⟨rfl, rfl⟩) (And.intro (.inl rfl) trivial))))
        rintro ⟨j, g4, c4, row⟩ ⟨k1, k2, k3⟩ d2
        have hsz := sizeF_le C.length
        have hrl : row.length = j * sizeF C.length := by rw [k3, flatBits_length, List.length_take, hL]; congr 1; omega
        have hrm : j * sizeF C.length ≤ j * 4 := Nat.mul_le_mul_left _ hsz
        repeat ((conv => whnf); first | with_reducible refine O_step ?_ | with_reducible refine S_step ?_ | with_reducible refine D_step ?_ | with_reducible refine RO.exit ?_ | with_reducible refine RO.ret ?_ | ((with_reducible refine And.intro ?sc ?_); case sc => exact side) | ((with_reducible refine br_f ?sc ?_); case sc => exact sideB) | ((with_reducible refine br_t ?sc ?_); case sc => exact sideB))
        refine And.intro (fun hE => ?_) (fun hE => ?_)
        · have hE' : (j : Int) < (cutL xs).length := of_decide_eq_true hE
          have hix : C.idxOf ((cutL xs).getD j 0) ≤ C.length := List.idxOf_le_length
          repeat ((conv => whnf); first | with_reducible refine O_step ?_ | with_reducible refine S_step ?_ | with_reducible refine D_step ?_ | with_reducible refine RO.exit ?_ | with_reducible refine RO.ret ?_ | ((with_reducible refine And.intro ?sc ?_); case sc => exact side) | ((with_reducible refine br_f ?sc ?_); case sc => exact sideB) | ((with_reducible refine br_t ?sc ?_); case sc => exact sideB))
          rw [show (j : Int).toNat + 0 = j from rfl]
          refine place_at (i := 2) rfl rfl (by omega) ?_
          repeat ((conv => whnf); first | with_reducible refine O_step ?_ | with_reducible refine S_step ?_ | with_reducible refine D_step ?_ | with_reducible refine RO.exit ?_ | with_reducible refine RO.ret ?_ | ((with_reducible refine And.intro ?sc ?_); case sc => exact side) | ((with_reducible refine br_f ?sc ?_); case sc => exact sideB) | ((with_reducible refine br_t ?sc ?_); case sc => exact sideB))
          rw [show ((C.idxOf ((cutL xs).getD j 0) : Nat) : Int) % 4294967296 = ((C.idxOf ((cutL xs).getD j 0) : Nat) : Int) by omega]
          refine rsize_at (k := (C.length : Int)) (by omega) ?_
          repeat ((conv => whnf); first | with_reducible refine O_step ?_ | with_reducible refine S_step ?_ | with_reducible refine D_step ?_ | with_reducible refine RO.exit ?_ | with_reducible refine RO.ret ?_ | ((with_reducible refine And.intro ?sc ?_); case sc => exact side) | ((with_reducible refine br_f ?sc ?_); case sc => exact sideB) | ((with_reducible refine br_t ?sc ?_); case sc => exact sideB))
          rw [show ((C.length : Int)).toNat = C.length from rfl]
          refine rbits_at (by omega) (by omega) (fun g5 c5 hc5 => ?_)
          rw [show ((sizeF C.length : Nat) : Int).toNat = sizeF C.length from rfl] at hc5 ⊢
          have hbl := bitsOf_length (sizeF C.length) ((C.idxOf ((cutL xs).getD j 0) : Nat) : Int)
          repeat ((conv => whnf); first | with_reducible refine O_step ?_ | with_reducible refine S_step ?_ | with_reducible refine D_step ?_ | with_reducible refine RO.exit ?_ | with_reducible refine RO.ret ?_ | ((with_reducible refine And.intro ?sc ?_); case sc => exact side) | ((with_reducible refine br_f ?sc ?_); case sc => exact sideB) | ((with_reducible refine br_t ?sc ?_); case sc => exact sideB))
          intro zs hzs
          have hz : zs = bitsOf (C.idxOf ((cutL xs).getD j 0) : Nat) (sizeF C.length) := by rw [hzs]; exact List.take_length
          subst hz
          repeat ((conv => whnf); first | with_reducible refine O_step ?_ | with_reducible refine S_step ?_ | with_reducible refine D_step ?_ | with_reducible refine RO.exit ?_ | with_reducible refine RO.ret ?_ | ((with_reducible refine And.intro ?sc ?_); case sc => exact side) | ((with_reducible refine br_f ?sc ?_); case sc => exact sideB) | ((with_reducible refine br_t ?sc ?_); case sc => exact sideB))
          intro c6 hc6
          repeat ((conv => whnf); first | with_reducible refine O_step ?_ | with_reducible refine S_step ?_ | with_reducible refine D_step ?_ | with_reducible refine RO.exit ?_ | with_reducible refine RO.ret ?_ | ((with_reducible refine And.intro ?sc ?_); case sc => exact side) | ((with_reducible refine br_f ?sc ?_); case sc => exact sideB) | ((with_reducible refine br_t ?sc ?_); case sc => exact sideB))
          refine RO.same (j + 1, g4 + 1, c6, row ++ bitsOf (C.idxOf ((cutL xs).getD j 0) : Nat) (sizeF C.length)) ⟨by omega, by rw [List.length_append]; exact hc6, ?_⟩ (show xs.length - (j + 1) < xs.length - j by omega) (And.intro rfl (And.intro rfl (And.intro rfl (And.intro (by rw [List.length_append]; rfl) (And.intro rfl trivial))))) (And.intro rfl (And.intro trivial (And.intro rfl (And.intro rfl (And.intro rfl (And.intro rfl (subA_nil _)))))))
          rw [k3, List.take_succ_eq_append_getElem (by omega), List.flatMap_append, getD_get (by omega)]
          simp
        · have hE' : ¬ (j : Int) < (cutL xs).length := of_decide_eq_false hE
          obtain rfl : j = xs.length := by omega
          have er : row = rowF xs := by rw [k3, List.take_of_length_le (by omega), hC]; rfl
          repeat ((conv => whnf); first | with_reducible refine O_step ?_ | with_reducible refine S_step ?_ | with_reducible refine D_step ?_ | with_reducible refine RO.exit ?_ | with_reducible refine RO.ret ?_ | ((with_reducible refine And.intro ?sc ?_); case sc => exact side) | ((with_reducible refine br_f ?sc ?_); case sc => exact sideB) | ((with_reducible refine br_t ?sc ?_); case sc => exact sideB))
          refine rbytes_at (i := 5) rfl rfl (by omega) ⟨k2, Nat.le_refl _⟩ (fun g5 c5 hc5 => ?_)
          have hbl := bytesF_length row
          repeat ((conv => whnf); first | with_reducible refine O_step ?_ | with_reducible refine S_step ?_ | with_reducible refine D_step ?_ | with_reducible refine RO.exit ?_ | with_reducible refine RO.ret ?_ | ((with_reducible refine And.intro ?sc ?_); case sc => exact side) | ((with_reducible refine br_f ?sc ?_); case sc => exact sideB) | ((with_reducible refine br_t ?sc ?_); case sc => exact sideB))
          intro zs hzs
          have hz : zs = bytesF row := by rw [hzs]; exact List.take_length
          subst hz
          repeat ((conv => whnf); first | with_reducible refine O_step ?_ | with_reducible refine S_step ?_ | with_reducible refine D_step ?_ | with_reducible refine RO.exit ?_ | with_reducible refine RO.ret ?_ | ((with_reducible refine And.intro ?sc ?_); case sc => exact side) | ((with_reducible refine br_f ?sc ?_); case sc => exact sideB) | ((with_reducible refine br_t ?sc ?_); case sc => exact sideB))
          intro c6 hc6
          repeat ((conv => whnf); first | with_reducible refine O_step ?_ | with_reducible refine S_step ?_ | with_reducible refine D_step ?_ | with_reducible refine RO.exit ?_ | with_reducible refine RO.ret ?_ | ((with_reducible refine And.intro ?sc ?_); case sc => exact side) | ((with_reducible refine br_f ?sc ?_); case sc => exact sideB) | ((with_reducible refine br_t ?sc ?_); case sc => exact sideB))
          have e : ys ++ bytesF row = palB xs := by rw [h3, er, hC]; rfl
          have e2 : ys.length + (bytesF row).length = (palB xs).length := by rw [← e, List.length_append]
          rw [e2] at hc6 ⊢
          exact ⟨[.one false 0 (.ints .u32 xs c), .gone, .gone, .one true (g + 1) (.ints .u8 (palB xs) c6)], And.intro rfl (And.intro trivial (And.intro trivial (And.intro (by rw [← e]) (subA_nil _)))), ⟨trivial, trivial, trivial, trivial, trivial⟩, rfl, Or.inr ⟨hok, g + 1, c6, rfl, rfl, hc6⟩⟩
theorem rpenc_at {M : AH} {K Kp : AV → AH → Prop} {i g n c co : Nat} {o : Bool} {xs : List Int} (hi : M[i]? = some (.one o g (.ints .u32 xs co))) (hn : n = xs.length) (hx : xs.length ≤ 1000000) (h0 : ∀ x ∈ xs, 0 ≤ x ∧ x < 4294967296)
    (h1 : palN xs → K (.tup [.ns, .bo false]) M)
    (h2 : ¬ palN xs → ∀ g' c', (palB xs).length ≤ c' → K (.tup [.sl (M.length + 2) g' 0 (palB xs).length c', .bo true]) (M ++ [.gone, .gone, .one true g' (.ints .u8 (palB xs) c')])) : CallA Try.prog 22 [.sl i g 0 n c] M K Kp := by
  subst hn
  refine CallA.lift [.win i g 0] (rpenc_call (xs := xs) (c0 := c) (c := co) (Kp := fun _ _ => False) hx h0) rfl rfl ⟨⟨_, _, _, rfl, slot_one hi, WinC.same rfl (fun h => h)⟩, trivial⟩ ⟨trivial, trivial⟩ ?_ (fun _ _ h => h.elim)
  rintro r M' (⟨hp, rfl, rfl⟩ | ⟨hp, g', c', rfl, rfl, hc'⟩)
  · refine ⟨⟨rfl, rfl⟩, ?_⟩
    have := h1 hp
    rw [← List.append_nil M] at this
    exact this
  · exact ⟨⟨rfl, rfl⟩, h2 hp g' c' hc'⟩
end Go.Proofs.Ytaioclggifdnhaa


set_option linter.unusedVariables false

set_option linter.unusedSimpArgs false

open Go.RowKit

namespace Go.Proofs.Ytaioclggifdnhaa

set_option maxRecDepth 10000

/-- The map of colours. -/
def esOf : List Int → Nat → List ((Int × Int) × AV)
  | [], _ => []
  | c :: cs, i => ((c, 0), .int .i64 (i : Int)) :: esOf cs (i + 1)
theorem esOf_length : ∀ (cs : List Int) (i : Nat), (esOf cs i).length = cs.length
  | [], _ => rfl
  | c :: cs, i => by simp [esOf, esOf_length cs (i + 1)]
theorem esOf_find (x : Int) : ∀ (cs : List Int) (i : Nat), findM (x, 0) (esOf cs i) = if x ∈ cs then some (.int .i64 ((i + cs.idxOf x : Nat) : Int)) else none
  | [], _ => by simp [esOf, findM]
  | c :: cs, i => by
    simp only [esOf, findM]
    by_cases h : x = c
    · subst h; simp
    · have h2 : ¬ ((x, (0 : Int)) = (c, 0)) := fun e => h (congrArg Prod.fst e)
      rw [if_neg h2, esOf_find x cs (i + 1)]
      have hb : (c == x) = false := by simpa using fun e => h e.symm
      by_cases hm : x ∈ cs
      · rw [if_pos hm, if_pos (by simp [hm]), List.idxOf_cons, hb]
        simp only [cond_false]
        rw [show i + 1 + cs.idxOf x = i + (cs.idxOf x + 1) by omega]
      · rw [if_neg hm, if_neg (by simp [hm, h])]
theorem esOf_app (x : Int) : ∀ (cs : List Int) (i : Nat), esOf (cs ++ [x]) i = esOf cs i ++ [((x, 0), .int .i64 ((i + cs.length : Nat) : Int))]
  | [], _ => rfl
  | c :: cs, i => by
    simp only [List.cons_append, esOf, esOf_app x cs (i + 1), List.length_cons]
    rw [show i + 1 + cs.length = i + (cs.length + 1) by omega]
theorem esOf_upd {x : Int} {v : AV} : ∀ {cs : List Int} {i : Nat}, x ∉ cs → updM (x, 0) v (esOf cs i) = esOf cs i ++ [((x, 0), v)]
  | [], _, _ => rfl
  | c :: cs, i, h => by
    simp only [List.mem_cons, not_or] at h
    have h2 : ¬ ((x, (0 : Int)) = (c, 0)) := fun e => h.1 (congrArg Prod.fst e)
    simp only [esOf, updM, if_neg h2, esOf_upd h.2, List.cons_append]
theorem esOf_nb : ∀ (cs : List Int) (i k : Nat), ∀ p ∈ esOf cs i, p.2.nb k = true
  | [], _, _ => by simp [esOf]
  | c :: cs, i, k => by
    intro p hp
    rcases List.mem_cons.1 hp with rfl | hp
    · rfl
    · exact esOf_nb cs (i + 1) k p hp
theorem b3_sh {x : Int} (hx : 0 ≤ x ∧ x < 16777216) : List.take 3 (List.drop 0 [shrF .u32 x 16 % 256, shrF .u32 x 8 % 256, x % 256]) = b3 x := by
  have a1 : shrF .u32 x 16 = x / 65536 := Int.fdiv_eq_ediv_of_nonneg _ (by decide)
  have a2 : shrF .u32 x 8 = x / 256 := Int.fdiv_eq_ediv_of_nonneg _ (by decide)
  rw [a1, a2]
  show [_, _, _] = [_, _, _]
  rw [show x / 65536 % 256 = x / 65536 by omega]
theorem cutL_get {xs : List Int} {j : Nat} (hj : j < xs.length) : 0 ≤ (cutL xs).getD j 0 ∧ (cutL xs).getD j 0 < 16777216 := bget cutL_bound j (by rw [cutL_length]; exact hj)
theorem cutL_cols {xs : List Int} {j : Nat} (hj : j < xs.length) : (cutL xs).getD j 0 ∈ cols xs := (colsF_mem _ _ _).2 (.inr (by rw [getD_get (by rw [cutL_length]; exact hj)]; exact List.getElem_mem _))

theorem penc_call {xs : List Int} {c0 c : Nat} (hx : xs.length ≤ 1000000) (h0 : ∀ x ∈ xs, 0 ≤ x ∧ x < 4294967296) {Kp} :
    CallA Try.prog 21 [.sl 0 0 0 xs.length c0] [.one false 0 (.ints .u32 xs c)]
      (fun r M => (palN xs ∧ r = .tup [.ns, .bo false] ∧ M = [.one false 0 (.ints .u32 xs c)]) ∨
        (¬ palN xs ∧ ∃ g' c', r = .tup [.sl 5 g' 0 (palB xs).length c', .bo true] ∧ M = [.one false 0 (.ints .u32 xs c), .gone, .gone, .gone, .gone, .one true g' (.ints .u8 (palB xs) c')] ∧ (palB xs).length ≤ c')) Kp := by
  refine CallA.post_sub ?_
  refine step21 (fun _ => [1]) [] rfl ?_
  have hL := cutL_length xs
  repeat ((conv => whnf); first | with_reducible refine O_step ?_ | with_reducible refine S_step ?_ | with_reducible refine D_step ?_ | with_reducible refine RO.exit ?_ | with_reducible refine RO.ret ?_ | ((with_reducible refine And.intro ?sc ?_); case sc => exact side) | ((with_reducible refine br_f ?sc ?_); case sc => exact sideB) | ((with_reducible refine br_t ?sc ?_); case sc => exact sideB))
  refine WO.gov (σ := Nat × Nat × Nat × List Int) (fun (j, g, cc, cs) => j ≤ xs.length ∧ cs.length ≤ 16 ∧ 3 * cs.length ≤ cc ∧ cols xs = colsF ((cutL xs).drop j) cs) (fun (j, _) => xs.length - j)
    (fun (j, g, cc, cs) => [(0, .sl 0 0 0 xs.length c0), (4, .mp 1 0), (5, .sl 2 g 0 (cs.flatMap b3).length cc), (15, .sl 0 0 0 xs.length c0), (16, .int .i64 xs.length), (17, .int .i64 j)])
    (fun (j, g, cc, cs) => [.one false 0 (.ints .u32 xs c), .one true 0 (.map (.int .u32) (esOf cs 0)), .one true g (.ints .u8 (cs.flatMap b3) cc)]) (0, 0, 0, []) tb_ok mixed (by kernel_rfl)
    [(0, .sl 0 0 0 xs.length c0), (4, .mp 1 0), (5, .ns), (15, .sl 0 0 0 xs.length c0), (16, .int .i64 xs.length), (17, .int .i64 0)] _ ⟨Nat.zero_le _, Nat.zero_le _, Nat.zero_le _, rfl⟩ (And.intro rfl (And.intro rfl (And.intro rfl (And.intro rfl (And.intro rfl (And.intro rfl (trivial))))))) rfl (Vw.nils (x := .ints .u8 [] 0) ⟨rfl, rfl⟩ ?_) (And.intro rfl (And.intro rfl (And.intro rfl (trivial)))) (fun _ => rfl) (fun _ => rfl) (fun (j, g, cc, cs) => ⟨trivial, esOf_nb cs 0 _, trivial, trivial⟩) ?_
  · exact And.intro (.inl rfl) (And.intro (.inl rfl) (And.intro (.inr ⟨rfl, rfl⟩) (And.intro (.inl rfl) (And.intro (.inl rfl) (And.intro (.inl rfl) trivial)))))
  rintro ⟨j, g, cc, cs⟩ ⟨h1, h2, h3, h4⟩ d
  have h5 := flat3_length cs
  repeat ((conv => whnf); first | with_reducible refine O_step ?_ | with_reducible refine S_step ?_ | with_reducible refine D_step ?_ | with_reducible refine RO.exit ?_ | with_reducible refine RO.ret ?_ | ((with_reducible refine And.intro ?sc ?_); case sc => exact side) | ((with_reducible refine br_f ?sc ?_); case sc => exact sideB) | ((with_reducible refine br_t ?sc ?_); case sc => exact sideB))
  refine And.intro (fun hc => ?_) (fun hc => ?_)
  · have hj : j < xs.length := by have := of_decide_eq_true hc; omega
    have hdr := colsF_drop (l := cutL xs) (i := j) cs (by omega)
    have hb := cutL_get hj
    repeat ((conv => whnf); first | with_reducible refine O_step ?_ | with_reducible refine S_step ?_ | with_reducible refine D_step ?_ | with_reducible refine RO.exit ?_ | with_reducible refine RO.ret ?_ | ((with_reducible refine And.intro ?sc ?_); case sc => exact side) | ((with_reducible refine br_f ?sc ?_); case sc => exact sideB) | ((with_reducible refine br_t ?sc ?_); case sc => exact sideB))
    rw [show (j : Int).toNat + 0 = j from rfl, and24_get h0 hj]
    refine And.intro (fun v hv => ?_) (fun hv => ?_)
    · rw [esOf_find] at hv
      have hm : (cutL xs).getD j 0 ∈ cs := by
        by_cases hm : (cutL xs).getD j 0 ∈ cs
        · exact hm
        · rw [if_neg hm] at hv; cases hv
      rw [if_pos hm] at hdr hv
      cases hv
      repeat ((conv => whnf); first | with_reducible refine O_step ?_ | with_reducible refine S_step ?_ | with_reducible refine D_step ?_ | with_reducible refine RO.exit ?_ | with_reducible refine RO.ret ?_ | ((with_reducible refine And.intro ?sc ?_); case sc => exact side) | ((with_reducible refine br_f ?sc ?_); case sc => exact sideB) | ((with_reducible refine br_t ?sc ?_); case sc => exact sideB))
      rw [esOf_length]
      refine br_f (decide_eq_false (by omega)) ?_
      repeat ((conv => whnf); first | with_reducible refine O_step ?_ | with_reducible refine S_step ?_ | with_reducible refine D_step ?_ | with_reducible refine RO.exit ?_ | with_reducible refine RO.ret ?_ | ((with_reducible refine And.intro ?sc ?_); case sc => exact side) | ((with_reducible refine br_f ?sc ?_); case sc => exact sideB) | ((with_reducible refine br_t ?sc ?_); case sc => exact sideB))
      exact RO.same (j + 1, g, cc, cs) ⟨by omega, h2, h3, by rw [h4, hdr]⟩ (show xs.length - (j + 1) < xs.length - j by omega) (And.intro rfl (And.intro rfl (And.intro rfl (And.intro rfl (And.intro rfl (And.intro rfl (trivial))))))) (And.intro rfl (And.intro rfl (And.intro rfl (trivial))))
    · rw [esOf_find] at hv
      have hm : (cutL xs).getD j 0 ∉ cs := by
        intro hm; rw [if_pos hm] at hv; cases hv
      rw [if_neg hm] at hdr
      repeat ((conv => whnf); first | with_reducible refine O_step ?_ | with_reducible refine S_step ?_ | with_reducible refine D_step ?_ | with_reducible refine RO.exit ?_ | with_reducible refine RO.ret ?_ | ((with_reducible refine And.intro ?sc ?_); case sc => exact side) | ((with_reducible refine br_f ?sc ?_); case sc => exact sideB) | ((with_reducible refine br_t ?sc ?_); case sc => exact sideB))
      rw [esOf_length]
      intro es' hes'
      have he : es' = esOf (cs ++ [(cutL xs).getD j 0]) 0 := by rw [hes', esOf_app, Nat.zero_add]; exact esOf_upd hm
      subst he
      repeat ((conv => whnf); first | with_reducible refine O_step ?_ | with_reducible refine S_step ?_ | with_reducible refine D_step ?_ | with_reducible refine RO.exit ?_ | with_reducible refine RO.ret ?_ | ((with_reducible refine And.intro ?sc ?_); case sc => exact side) | ((with_reducible refine br_f ?sc ?_); case sc => exact sideB) | ((with_reducible refine br_t ?sc ?_); case sc => exact sideB))
      intro zs hzs
      have hz : zs = b3 ((cutL xs).getD j 0) := by rw [hzs]; exact b3_sh hb
      subst hz
      repeat ((conv => whnf); first | with_reducible refine O_step ?_ | with_reducible refine S_step ?_ | with_reducible refine D_step ?_ | with_reducible refine RO.exit ?_ | with_reducible refine RO.ret ?_ | ((with_reducible refine And.intro ?sc ?_); case sc => exact side) | ((with_reducible refine br_f ?sc ?_); case sc => exact sideB) | ((with_reducible refine br_t ?sc ?_); case sc => exact sideB))
      intro c2 hc2
      repeat ((conv => whnf); first | with_reducible refine O_step ?_ | with_reducible refine S_step ?_ | with_reducible refine D_step ?_ | with_reducible refine RO.exit ?_ | with_reducible refine RO.ret ?_ | ((with_reducible refine And.intro ?sc ?_); case sc => exact side) | ((with_reducible refine br_f ?sc ?_); case sc => exact sideB) | ((with_reducible refine br_t ?sc ?_); case sc => exact sideB))
      rw [esOf_length]
      have hcl : (cs ++ [(cutL xs).getD j 0]).length = cs.length + 1 := by simp
      refine And.intro (fun hd => ?_) (fun hd => ?_)
      · have hd' := of_decide_eq_true hd
        repeat ((conv => whnf); first | with_reducible refine O_step ?_ | with_reducible refine S_step ?_ | with_reducible refine D_step ?_ | with_reducible refine RO.exit ?_ | with_reducible refine RO.ret ?_ | ((with_reducible refine And.intro ?sc ?_); case sc => exact side) | ((with_reducible refine br_f ?sc ?_); case sc => exact sideB) | ((with_reducible refine br_t ?sc ?_); case sc => exact sideB))
        refine ⟨[.one false 0 (.ints .u32 xs c)], And.intro rfl (subA_nil _), ⟨trivial, trivial⟩, rfl, Or.inl ⟨Or.inr ?_, rfl, rfl⟩⟩
        rw [h4, hdr]
        have := colsF_le ((cutL xs).drop (j + 1)) (cs ++ [(cutL xs).getD j 0])
        omega
      · have hd' := of_decide_eq_false hd
        repeat ((conv => whnf); first | with_reducible refine O_step ?_ | with_reducible refine S_step ?_ | with_reducible refine D_step ?_ | with_reducible refine RO.exit ?_ | with_reducible refine RO.ret ?_ | ((with_reducible refine And.intro ?sc ?_); case sc => exact side) | ((with_reducible refine br_f ?sc ?_); case sc => exact sideB) | ((with_reducible refine br_t ?sc ?_); case sc => exact sideB))
        have hfl : (cs.flatMap b3).length + 3 = ((cs ++ [(cutL xs).getD j 0]).flatMap b3).length := by rw [flat3_length, flat3_length, hcl]; omega
        have hfe : cs.flatMap b3 ++ b3 ((cutL xs).getD j 0) = (cs ++ [(cutL xs).getD j 0]).flatMap b3 := by simp
        refine RO.same (j + 1, g + 1, c2, cs ++ [(cutL xs).getD j 0]) ⟨by omega, by omega, by omega, by rw [h4, hdr]⟩ (show xs.length - (j + 1) < xs.length - j by omega) (And.intro rfl (And.intro rfl (And.intro ?_ (And.intro rfl (And.intro rfl (And.intro rfl (trivial))))))) (And.intro rfl (And.intro rfl (And.intro ?_ (subA_nil _))))
        · show AV.sl 2 (g + 1) 0 ((cs.flatMap b3).length + 3) c2 = _
          rw [hfl]
        · show AO.one true (g + 1) (.ints .u8 ((cs ++ [(cutL xs).getD j 0]).flatMap b3) c2) = AO.one true (g + 1) (.ints .u8 (cs.flatMap b3 ++ b3 ((cutL xs).getD j 0)) c2)
          rw [hfe]
  · have hc' : ¬ (j : Int) < xs.length := of_decide_eq_false hc
    obtain rfl : j = xs.length := by omega
    rw [List.drop_of_length_le (by omega)] at h4
    simp only [colsF] at h4
    subst h4
    have hcl := cols_length xs
    repeat ((conv => whnf); first | with_reducible refine O_step ?_ | with_reducible refine S_step ?_ | with_reducible refine D_step ?_ | with_reducible refine RO.exit ?_ | with_reducible refine RO.ret ?_ | ((with_reducible refine And.intro ?sc ?_); case sc => exact side) | ((with_reducible refine br_f ?sc ?_); case sc => exact sideB) | ((with_reducible refine br_t ?sc ?_); case sc => exact sideB))
    rw [esOf_length]
    refine And.intro (fun hd => ?_) (fun hd => ?_)
    · have hd' := of_decide_eq_true hd
      repeat ((conv => whnf); first | with_reducible refine O_step ?_ | with_reducible refine S_step ?_ | with_reducible refine D_step ?_ | with_reducible refine RO.exit ?_ | with_reducible refine RO.ret ?_ | ((with_reducible refine And.intro ?sc ?_); case sc => exact side) | ((with_reducible refine br_f ?sc ?_); case sc => exact sideB) | ((with_reducible refine br_t ?sc ?_); case sc => exact sideB))
      exact ⟨[.one false 0 (.ints .u32 xs c)], And.intro rfl (subA_nil _), ⟨trivial, trivial⟩, rfl, Or.inl ⟨Or.inl (by omega), rfl, rfl⟩⟩
    · have hd' := of_decide_eq_false hd
      have hok : ¬ palN xs := by unfold palN; omega
      repeat ((conv => whnf); first | with_reducible refine O_step ?_ | with_reducible refine S_step ?_ | with_reducible refine D_step ?_ | with_reducible refine RO.exit ?_ | with_reducible refine RO.ret ?_ | ((with_reducible refine And.intro ?sc ?_); case sc => exact side) | ((with_reducible refine br_f ?sc ?_); case sc => exact sideB) | ((with_reducible refine br_t ?sc ?_); case sc => exact sideB))
      refine WO.gov (σ := Nat × Nat × Nat × List Bool) (fun (j, g4, c4, row) => j ≤ xs.length ∧ (packF row).length ≤ c4 ∧ row = ((cutL xs).take j).flatMap fun c => bitsOf ((cols xs).idxOf c : Nat) (sizeF (cols xs).length)) (fun (j, _) => xs.length - j)
        (fun (j, g4, c4, row) => [(4, .mp 1 0), (5, .sl 2 g 0 ((cols xs).flatMap b3).length cc), (10, .ptr 3 0 0), (11, .fn (.func 31) [.ptr 3 0 0] []), (54, .sl 0 0 0 xs.length c0), (55, .int .i64 xs.length), (56, .int .i64 j)])
        (fun (j, g4, c4, row) => [.one false 0 (.ints .u32 xs c), .one true 0 (.map (.int .u32) (esOf (cols xs) 0)), .one true g (.ints .u8 ((cols xs).flatMap b3) cc), wo 4 g4 c4 row, wb g4 c4 row]) (0, 0, 0, []) tb_ok mixed (by kernel_rfl)
        [(4, .mp 1 0), (5, .sl 2 g 0 ((cols xs).flatMap b3).length cc), (10, .ptr 3 0 0), (11, .fn (.func 31) [.ptr 3 0 0] []), (54, .sl 0 0 0 xs.length c0), (55, .int .i64 xs.length), (56, .int .i64 0)] _ ⟨Nat.zero_le _, Nat.zero_le _, rfl⟩ (And.intro rfl (And.intro rfl (And.intro rfl (And.intro rfl (And.intro rfl (And.intro rfl (And.intro rfl (trivial)))))))) rfl (Vw.writer (i := 3) rfl) (And.intro rfl (And.intro rfl (And.intro rfl (And.intro rfl (And.intro rfl (trivial)))))) (fun _ => rfl) (fun _ => rfl) (fun _ => ⟨trivial, esOf_nb (cols xs) 0 _, trivial, rfl, trivial, trivial⟩) ?_
      rintro ⟨j, g4, c4, row⟩ ⟨k1, k2, k3⟩ d2
      have hsz := sizeF_le (cols xs).length
      have hrl : row.length = j * sizeF (cols xs).length := by rw [k3, flatBits_length, List.length_take, hL]; congr 1; omega
      have hrm : j * sizeF (cols xs).length ≤ j * 4 := Nat.mul_le_mul_left _ hsz
      repeat ((conv => whnf); first | with_reducible refine O_step ?_ | with_reducible refine S_step ?_ | with_reducible refine D_step ?_ | with_reducible refine RO.exit ?_ | with_reducible refine RO.ret ?_ | ((with_reducible refine And.intro ?sc ?_); case sc => exact side) | ((with_reducible refine br_f ?sc ?_); case sc => exact sideB) | ((with_reducible refine br_t ?sc ?_); case sc => exact sideB))
      refine And.intro (fun hE => ?_) (fun hE => ?_)
      · have hj : j < xs.length := by have := of_decide_eq_true hE; omega
        have hm := cutL_cols hj
        have hix : (cols xs).idxOf ((cutL xs).getD j 0) < (cols xs).length := List.idxOf_lt_length_iff.2 hm
        repeat ((conv => whnf); first | with_reducible refine O_step ?_ | with_reducible refine S_step ?_ | with_reducible refine D_step ?_ | with_reducible refine RO.exit ?_ | with_reducible refine RO.ret ?_ | ((with_reducible refine And.intro ?sc ?_); case sc => exact side) | ((with_reducible refine br_f ?sc ?_); case sc => exact sideB) | ((with_reducible refine br_t ?sc ?_); case sc => exact sideB))
        rw [show (j : Int).toNat + 0 = j from rfl, and24_get h0 hj]
        refine And.intro (fun v hv => ?_) (fun hv => ?_)
        · rw [esOf_find, if_pos hm] at hv
          cases hv
          repeat ((conv => whnf); first | with_reducible refine O_step ?_ | with_reducible refine S_step ?_ | with_reducible refine D_step ?_ | with_reducible refine RO.exit ?_ | with_reducible refine RO.ret ?_ | ((with_reducible refine And.intro ?sc ?_); case sc => exact side) | ((with_reducible refine br_f ?sc ?_); case sc => exact sideB) | ((with_reducible refine br_t ?sc ?_); case sc => exact sideB))
          rw [esOf_length]
          refine psize_at (k := ((cols xs).length : Int)) (by omega) ?_
          rw [show (((cols xs).length : Int)).toNat = (cols xs).length from rfl]
          repeat ((conv => whnf); first | with_reducible refine O_step ?_ | with_reducible refine S_step ?_ | with_reducible refine D_step ?_ | with_reducible refine RO.exit ?_ | with_reducible refine RO.ret ?_ | ((with_reducible refine And.intro ?sc ?_); case sc => exact side) | ((with_reducible refine br_f ?sc ?_); case sc => exact sideB) | ((with_reducible refine br_t ?sc ?_); case sc => exact sideB))
          rw [show ((0 + (cols xs).idxOf ((cutL xs).getD j 0) : Nat) : Int) % 4294967296 = (((cols xs).idxOf ((cutL xs).getD j 0) : Nat) : Int) by omega]
          refine put_at (i := 3) (j := 4) (row := row) (row' := row ++ bitsOf ((cols xs).idxOf ((cutL xs).getD j 0) : Nat) (sizeF (cols xs).length)) (e := 0) rfl rfl rfl (by omega) (by omega) k2 (putF_ok (by omega) ?_ (by omega)) (fun g6 c6 hc6 hr6 => ?_)
          · unfold sizeF
            split
            · omega
            · split
              · omega
              · split
                · show _ < (4 : Int); omega
                · show _ < (16 : Int); omega
          repeat ((conv => whnf); first | with_reducible refine O_step ?_ | with_reducible refine S_step ?_ | with_reducible refine D_step ?_ | with_reducible refine RO.exit ?_ | with_reducible refine RO.ret ?_ | ((with_reducible refine And.intro ?sc ?_); case sc => exact side) | ((with_reducible refine br_f ?sc ?_); case sc => exact sideB) | ((with_reducible refine br_t ?sc ?_); case sc => exact sideB))
          refine RO.same (j + 1, g6, c6, row ++ bitsOf ((cols xs).idxOf ((cutL xs).getD j 0) : Nat) (sizeF (cols xs).length)) ⟨by omega, hc6, ?_⟩ (show xs.length - (j + 1) < xs.length - j by omega) (And.intro rfl (And.intro rfl (And.intro rfl (And.intro rfl (And.intro rfl (And.intro rfl (And.intro rfl (trivial)))))))) (And.intro rfl (And.intro rfl (And.intro rfl (And.intro rfl (And.intro rfl (trivial))))))
          rw [k3, List.take_succ_eq_append_getElem (by omega), List.flatMap_append, getD_get (by omega)]
          simp
        · rw [esOf_find, if_pos hm] at hv
          cases hv
      · have hE' : ¬ (j : Int) < xs.length := of_decide_eq_false hE
        obtain rfl : j = xs.length := by omega
        have er : row = rowF xs := by rw [k3, List.take_of_length_le (by omega)]; rfl
        have hf3 := flat3_length (cols xs)
        repeat ((conv => whnf); first | with_reducible refine O_step ?_ | with_reducible refine S_step ?_ | with_reducible refine D_step ?_ | with_reducible refine RO.exit ?_ | with_reducible refine RO.ret ?_ | ((with_reducible refine And.intro ?sc ?_); case sc => exact side) | ((with_reducible refine br_f ?sc ?_); case sc => exact sideB) | ((with_reducible refine br_t ?sc ?_); case sc => exact sideB))
        rw [esOf_length]
        repeat ((conv => whnf); first | with_reducible refine O_step ?_ | with_reducible refine S_step ?_ | with_reducible refine D_step ?_ | with_reducible refine RO.exit ?_ | with_reducible refine RO.ret ?_ | ((with_reducible refine And.intro ?sc ?_); case sc => exact side) | ((with_reducible refine br_f ?sc ?_); case sc => exact sideB) | ((with_reducible refine br_t ?sc ?_); case sc => exact sideB))
        rw [show (((cols xs).length : Int) - 1) % 256 = ((cols xs).length : Int) - 1 by omega]
        intro zs hzs
        have hz : zs = (cols xs).flatMap b3 := by rw [hzs]; exact List.take_length
        subst hz
        repeat ((conv => whnf); first | with_reducible refine O_step ?_ | with_reducible refine S_step ?_ | with_reducible refine D_step ?_ | with_reducible refine RO.exit ?_ | with_reducible refine RO.ret ?_ | ((with_reducible refine And.intro ?sc ?_); case sc => exact side) | ((with_reducible refine br_f ?sc ?_); case sc => exact sideB) | ((with_reducible refine br_t ?sc ?_); case sc => exact sideB))
        intro c5 hc5
        repeat ((conv => whnf); first | with_reducible refine O_step ?_ | with_reducible refine S_step ?_ | with_reducible refine D_step ?_ | with_reducible refine RO.exit ?_ | with_reducible refine RO.ret ?_ | ((with_reducible refine And.intro ?sc ?_); case sc => exact side) | ((with_reducible refine br_f ?sc ?_); case sc => exact sideB) | ((with_reducible refine br_t ?sc ?_); case sc => exact sideB))
        refine bytes_at (i := 3) (j := 4) (row := row) rfl rfl rfl (by omega) k2 (fun g7 c7 hc7 => ?_)
        have hbl := bytesF_length row
        repeat ((conv => whnf); first | with_reducible refine O_step ?_ | with_reducible refine S_step ?_ | with_reducible refine D_step ?_ | with_reducible refine RO.exit ?_ | with_reducible refine RO.ret ?_ | ((with_reducible refine And.intro ?sc ?_); case sc => exact side) | ((with_reducible refine br_f ?sc ?_); case sc => exact sideB) | ((with_reducible refine br_t ?sc ?_); case sc => exact sideB))
        intro zs hzs
        have hz : zs = bytesF row := by rw [hzs]; exact List.take_length
        subst hz
        repeat ((conv => whnf); first | with_reducible refine O_step ?_ | with_reducible refine S_step ?_ | with_reducible refine D_step ?_ | with_reducible refine RO.exit ?_ | with_reducible refine RO.ret ?_ | ((with_reducible refine And.intro ?sc ?_); case sc => exact side) | ((with_reducible refine br_f ?sc ?_); case sc => exact sideB) | ((with_reducible refine br_t ?sc ?_); case sc => exact sideB))
        intro c8 hc8
        repeat ((conv => whnf); first | with_reducible refine O_step ?_ | with_reducible refine S_step ?_ | with_reducible refine D_step ?_ | with_reducible refine RO.exit ?_ | with_reducible refine RO.ret ?_ | ((with_reducible refine And.intro ?sc ?_); case sc => exact side) | ((with_reducible refine br_f ?sc ?_); case sc => exact sideB) | ((with_reducible refine br_t ?sc ?_); case sc => exact sideB))
        have e : [((cols xs).length : Int) - 1] ++ (cols xs).flatMap b3 ++ bytesF row = palB xs := by rw [er]; rfl
        have e2 : 1 + ((cols xs).flatMap b3).length + (bytesF row).length = (palB xs).length := by rw [← e, List.length_append, List.length_append]; rfl
        rw [e2] at hc8 ⊢
        exact ⟨[.one false 0 (.ints .u32 xs c), .gone, .gone, .gone, .gone, .one true 2 (.ints .u8 (palB xs) c8)], And.intro rfl (And.intro trivial (And.intro trivial (And.intro trivial (And.intro trivial (And.intro (by rw [← e]) (subA_nil _)))))), ⟨trivial, trivial, trivial, trivial, trivial, trivial, trivial⟩, rfl, Or.inr ⟨hok, 2, c8, rfl, rfl, hc8⟩⟩
theorem penc_at {M : AH} {K Kp : AV → AH → Prop} {i g n c co : Nat} {o : Bool} {xs : List Int} (hi : M[i]? = some (.one o g (.ints .u32 xs co))) (hn : n = xs.length) (hx : xs.length ≤ 1000000) (h0 : ∀ x ∈ xs, 0 ≤ x ∧ x < 4294967296)
    (h1 : palN xs → K (.tup [.ns, .bo false]) M)
    (h2 : ¬ palN xs → ∀ g' c', (palB xs).length ≤ c' → K (.tup [.sl (M.length + 4) g' 0 (palB xs).length c', .bo true]) (M ++ [.gone, .gone, .gone, .gone, .one true g' (.ints .u8 (palB xs) c')])) : CallA Try.prog 21 [.sl i g 0 n c] M K Kp := by
  subst hn
  refine CallA.lift [.win i g 0] (penc_call (xs := xs) (c0 := c) (c := co) (Kp := fun _ _ => False) hx h0) rfl rfl ⟨⟨_, _, _, rfl, slot_one hi, WinC.same rfl (fun h => h)⟩, trivial⟩ ⟨trivial, trivial⟩ ?_ (fun _ _ h => h.elim)
  rintro r M' (⟨hp, rfl, rfl⟩ | ⟨hp, g', c', rfl, rfl, hc'⟩)
  · refine ⟨⟨rfl, rfl⟩, ?_⟩
    have := h1 hp
    rw [← List.append_nil M] at this
    exact this
  · exact ⟨⟨rfl, rfl⟩, h2 hp g' c' hc'⟩
end Go.Proofs.Ytaioclggifdnhaa


set_option linter.unusedVariables false

set_option linter.unusedSimpArgs false

open Go.RowKit

namespace Go.Proofs.Ytaioclggifdnhaa

set_option maxRecDepth 10000

theorem new_win {M : AH} {K Kp : AV → AH → Prop} {i g off n c co : Nat} {own : Bool} {ys xs : List Int} (hi : M[i]? = some (.one own g (.ints .u8 ys co))) (hn : n = xs.length) (hw : xs = (ys.drop off).take xs.length) (ho : off + xs.length ≤ co) (hb : xs.length ≤ 70368744177664)
    (h : ∀ g' c', xs.length ≤ c' → K (.ptr (M.length + 1) 0 0) (M ++ [rb g' c' xs, ro M.length g' c' xs 0])) :
    CallA Try.prog 37 [.sl i g off n c] M K Kp := by
  subst hn
  refine CallA.lift [.win i g off] (new_call (xs := xs) (c0 := c) (c := xs.length) (Kp := fun _ _ => False) hb) (by simp [AV.rnl, AV.rn, rnI, rnG, rnF, TE.i]) rfl ⟨⟨_, _, _, rfl, slot_one hi, WinC.ints ho hw⟩, trivial⟩ ⟨trivial, trivial⟩ ?_ (fun _ _ h => h.elim)
  rintro r M' ⟨g', c', rfl, rfl, hc'⟩
  exact ⟨⟨rfl, rfl⟩, h g' c' hc'⟩
theorem rof_win {M : AH} {K Kp : AV → AH → Prop} {i g off n c co : Nat} {own : Bool} {ys xs : List Int} (hi : M[i]? = some (.one own g (.ints .u8 ys co))) (hn : n = xs.length) (hw : xs = (ys.drop off).take xs.length) (ho : off + xs.length ≤ co) (hb : xs.length ≤ 100000000) (hxs : ∀ x ∈ xs, 0 ≤ x ∧ x < 256)
    (h : ∀ g' c', (unpack xs).length ≤ c' → K (.sl M.length g' 0 (unpack xs).length c') (M ++ [.one true g' (.bools (unpack xs) c')])) :
    CallA Try.prog 40 [.sl i g off n c] M K Kp := by
  subst hn
  refine CallA.lift [.win i g off] (rof_call (xs := xs) (c0 := c) (c := xs.length) (Kp := fun _ _ => False) hb hxs) (by simp [AV.rnl, AV.rn, rnI, rnG, rnF, TE.i]) rfl ⟨⟨_, _, _, rfl, slot_one hi, WinC.ints ho hw⟩, trivial⟩ ⟨trivial, trivial⟩ ?_ (fun _ _ h => h.elim)
  rintro r M' ⟨g', c', rfl, rfl, hc'⟩
  exact ⟨⟨rfl, rfl⟩, h g' c' hc'⟩
theorem rnumber_win {M : AH} {K Kp : AV → AH → Prop} {i g off n c co : Nat} {own : Bool} {ys xs : List Bool} (hi : M[i]? = some (.one own g (.bools ys co))) (hn : n = xs.length) (hw : xs = (ys.drop off).take xs.length) (ho : off + xs.length ≤ co) (hb : xs.length ≤ 31)
    (h : K (.int .u32 (num xs)) M) : CallA Try.prog 41 [.sl i g off n c] M K Kp := by
  subst hn
  refine CallA.lift [.win i g off] (rnumber_call (xs := xs) (c0 := c) (c := xs.length) (K := fun r M => r = .int .u32 (num xs) ∧ M = [.one false 0 (.bools xs xs.length)]) (Kp := fun _ _ => False) hb ⟨rfl, rfl⟩) (by simp [AV.rnl, AV.rn, rnI, rnG, rnF, TE.i]) rfl ⟨⟨_, _, _, rfl, slot_one hi, WinC.bools ho hw⟩, trivial⟩ ⟨trivial, trivial⟩ ?_ (fun _ _ h => h.elim)
  rintro r M' ⟨rfl, rfl⟩
  rw [← List.append_nil M] at h
  exact ⟨⟨rfl, rfl⟩, h⟩

/-- The colour i, of bytes. -/
def colB (b : List Int) (i : Nat) : Int := b.getD (1 + 3 * i) 0 * 65536 + b.getD (2 + 3 * i) 0 * 256 + b.getD (3 + 3 * i) 0
/-- The index of pixel i. -/
def valB (b : List Int) (k s i : Nat) : Int := num (((unpack (b.drop (1 + 3 * k))).drop (i * s)).take s)
/-- Behind what has a fitting length. -/
def palV (b : List Int) (k N : Nat) : List Int × Int :=
  if (List.range N).all (fun i => decide (valB b k (sizeF k) i < k)) = true then
    if num ((unpack (b.drop (1 + 3 * k))).drop (N * sizeF k)) = 0 then ((List.range N).map fun i => colB b (valB b k (sizeF k) i).toNat, 0) else ([], 131)
  else ([], 131)
def palD (b : List Int) (n : Int) : List Int × Int :=
  if n < 1 ∨ 65536 < n then ([], 1) else
  if b.length = 0 ∨ 16 ≤ b.getD 0 0 then ([], 131) else
  if b.length ≠ 1 + 3 * ((b.getD 0 0).toNat + 1) + (n.toNat * sizeF ((b.getD 0 0).toNat + 1) + 7) / 8 then ([], 131) else palV b ((b.getD 0 0).toNat + 1) n.toNat
theorem palV_bad {b : List Int} {k N i : Nat} (hi : i < N) (h : ¬ valB b k (sizeF k) i < k) : palV b k N = ([], 131) := by
  unfold palV
  rw [if_neg]
  rw [List.all_eq_true]
  intro hall
  have := hall i (List.mem_range.2 hi)
  exact h (of_decide_eq_true this)
theorem palV_ok {b : List Int} {k N : Nat} (h : ∀ i, i < N → valB b k (sizeF k) i < k) : palV b k N = if num ((unpack (b.drop (1 + 3 * k))).drop (N * sizeF k)) = 0 then ((List.range N).map fun i => colB b (valB b k (sizeF k) i).toNat, 0) else ([], 131) := by
  unfold palV
  rw [if_pos]
  rw [List.all_eq_true]
  intro i hi
  exact decide_eq_true (h i (List.mem_range.1 hi))
theorem set_next (f : Nat → Int) (i m : Nat) : ((List.range i).map f ++ List.replicate (m + 1) 0).set i (f i) = (List.range (i + 1)).map f ++ List.replicate m 0 := by
  rw [List.set_append_right _ _ (by simp), List.length_map, List.length_range, Nat.sub_self, List.replicate_succ, List.set_cons_zero, List.range_succ]
  simp

theorem valB_bound (b : List Int) (k i : Nat) : 0 ≤ valB b k (sizeF k) i ∧ valB b k (sizeF k) i < 65536 := by
  refine ⟨num_nonneg _, ?_⟩
  have h1 := num_lt (((unpack (b.drop (1 + 3 * k))).drop (i * sizeF k)).take (sizeF k))
  have h2 : (((unpack (b.drop (1 + 3 * k))).drop (i * sizeF k)).take (sizeF k)).length ≤ 4 := Nat.le_trans (List.length_take_le _ _) (sizeF_le k)
  have h3 : 2 ^ (((unpack (b.drop (1 + 3 * k))).drop (i * sizeF k)).take (sizeF k)).length ≤ 2 ^ 4 := Nat.pow_le_pow_right (by decide) h2
  have h4 : ((2 ^ (((unpack (b.drop (1 + 3 * k))).drop (i * sizeF k)).take (sizeF k)).length : Nat) : Int) ≤ 16 := by exact_mod_cast h3
  have h5 : (2 : Int) ^ (((unpack (b.drop (1 + 3 * k))).drop (i * sizeF k)).take (sizeF k)).length = ((2 ^ (((unpack (b.drop (1 + 3 * k))).drop (i * sizeF k)).take (sizeF k)).length : Nat) : Int) := by push_cast; rfl
  unfold valB
  omega
theorem pdec_call {b : List Int} {c0 c : Nat} {n : Int} (hb : b.length ≤ 1000000) (hc0 : b.length ≤ c0 ∧ c0 ≤ c) (h0 : ∀ x ∈ b, 0 ≤ x ∧ x < 256) {Kp} :
    CallA Try.prog 24 [.sl 0 0 0 b.length c0, .int .i64 n] [.one false 0 (.ints .u8 b c)]
      (fun r M => (∃ l, palD b n = (l, 0) ∧ r = .tup [.sl 4 0 0 l.length l.length, .int .i64 0] ∧ M = [.one false 0 (.ints .u8 b c), .gone, .gone, .gone, .one true 0 (.ints .u32 l l.length)]) ∨
        (∃ e, e ≠ 0 ∧ palD b n = ([], e) ∧ r = .tup [.ns, .int .i64 e] ∧ M = [.one false 0 (.ints .u8 b c)])) Kp := by
  refine CallA.post_sub ?_
  have fin : ∀ (M : AH) (e : Int), e ≠ 0 → palD b n = ([], e) → ∃ N, subA (.one false 0 (.ints .u8 b c) :: M) N ∧ nbH N.length N ∧ ((AV.tup [.ns, .int .i64 e]).nb N.length && Nat.ble [AO.one false 0 (.ints .u8 b c)].length N.length) = true ∧ ((∃ l, palD b n = (l, 0) ∧ AV.tup [.ns, .int .i64 e] = .tup [.sl 4 0 0 l.length l.length, .int .i64 0] ∧ N = [.one false 0 (.ints .u8 b c), .gone, .gone, .gone, .one true 0 (.ints .u32 l l.length)]) ∨
        (∃ e', e' ≠ 0 ∧ palD b n = ([], e') ∧ AV.tup [.ns, .int .i64 e] = .tup [.ns, .int .i64 e'] ∧ N = [.one false 0 (.ints .u8 b c)])) := fun M e h1 h2 => ⟨[.one false 0 (.ints .u8 b c)], ⟨rfl, subA_nil M⟩, ⟨trivial, trivial⟩, rfl, Or.inr ⟨e, h1, h2, rfl, rfl⟩⟩
  refine step24 (fun _ => [0]) [] rfl ?_
  repeat ((conv => whnf); first | with_reducible refine O_step ?_ | with_reducible refine S_step ?_ | with_reducible refine D_step ?_ | with_reducible refine RO.exit ?_ | with_reducible refine RO.ret ?_ | ((with_reducible refine And.intro ?sc ?_); case sc => exact side) | ((with_reducible refine br_f ?sc ?_); case sc => exact sideB) | ((with_reducible refine br_t ?sc ?_); case sc => exact sideB))
  refine And.intro (fun hA => ?_) (fun hA => ?_)
  · have hA' : n < 1 := of_decide_eq_true hA
    repeat ((conv => whnf); first | with_reducible refine O_step ?_ | with_reducible refine S_step ?_ | with_reducible refine D_step ?_ | with_reducible refine RO.exit ?_ | with_reducible refine RO.ret ?_ | ((with_reducible refine And.intro ?sc ?_); case sc => exact side) | ((with_reducible refine br_f ?sc ?_); case sc => exact sideB) | ((with_reducible refine br_t ?sc ?_); case sc => exact sideB))
    exact fin _ 1 (by decide) (by rw [palD, if_pos (by omega)])
  · have hA' : ¬ n < 1 := of_decide_eq_false hA
    repeat ((conv => whnf); first | with_reducible refine O_step ?_ | with_reducible refine S_step ?_ | with_reducible refine D_step ?_ | with_reducible refine RO.exit ?_ | with_reducible refine RO.ret ?_ | ((with_reducible refine And.intro ?sc ?_); case sc => exact side) | ((with_reducible refine br_f ?sc ?_); case sc => exact sideB) | ((with_reducible refine br_t ?sc ?_); case sc => exact sideB))
    refine And.intro (fun hB => ?_) (fun hB => ?_)
    · have hB' : n > 65536 := of_decide_eq_true hB
      repeat ((conv => whnf); first | with_reducible refine O_step ?_ | with_reducible refine S_step ?_ | with_reducible refine D_step ?_ | with_reducible refine RO.exit ?_ | with_reducible refine RO.ret ?_ | ((with_reducible refine And.intro ?sc ?_); case sc => exact side) | ((with_reducible refine br_f ?sc ?_); case sc => exact sideB) | ((with_reducible refine br_t ?sc ?_); case sc => exact sideB))
      exact fin _ 1 (by decide) (by rw [palD, if_pos (by omega)])
    · have hB' : ¬ n > 65536 := of_decide_eq_false hB
      obtain ⟨N, rfl⟩ : ∃ N : Nat, n = N := ⟨n.toNat, by omega⟩
      repeat ((conv => whnf); first | with_reducible refine O_step ?_ | with_reducible refine S_step ?_ | with_reducible refine D_step ?_ | with_reducible refine RO.exit ?_ | with_reducible refine RO.ret ?_ | ((with_reducible refine And.intro ?sc ?_); case sc => exact side) | ((with_reducible refine br_f ?sc ?_); case sc => exact sideB) | ((with_reducible refine br_t ?sc ?_); case sc => exact sideB))
      refine And.intro (fun hC => ?_) (fun hC => ?_)
      · have hC' : (b.length : Int) = 0 := of_decide_eq_true hC
        repeat ((conv => whnf); first | with_reducible refine O_step ?_ | with_reducible refine S_step ?_ | with_reducible refine D_step ?_ | with_reducible refine RO.exit ?_ | with_reducible refine RO.ret ?_ | ((with_reducible refine And.intro ?sc ?_); case sc => exact side) | ((with_reducible refine br_f ?sc ?_); case sc => exact sideB) | ((with_reducible refine br_t ?sc ?_); case sc => exact sideB))
        exact fin _ 131 (by decide) (by rw [palD, if_neg (by omega), if_pos (by omega)])
      · have hC' : ¬ (b.length : Int) = 0 := of_decide_eq_false hC
        have v0 := bget h0 0 (by omega)
        repeat ((conv => whnf); first | with_reducible refine O_step ?_ | with_reducible refine S_step ?_ | with_reducible refine D_step ?_ | with_reducible refine RO.exit ?_ | with_reducible refine RO.ret ?_ | ((with_reducible refine And.intro ?sc ?_); case sc => exact side) | ((with_reducible refine br_f ?sc ?_); case sc => exact sideB) | ((with_reducible refine br_t ?sc ?_); case sc => exact sideB))
        rw [show Int.toNat 0 + 0 = 0 from rfl]
        repeat ((conv => whnf); first | with_reducible refine O_step ?_ | with_reducible refine S_step ?_ | with_reducible refine D_step ?_ | with_reducible refine RO.exit ?_ | with_reducible refine RO.ret ?_ | ((with_reducible refine And.intro ?sc ?_); case sc => exact side) | ((with_reducible refine br_f ?sc ?_); case sc => exact sideB) | ((with_reducible refine br_t ?sc ?_); case sc => exact sideB))
        refine And.intro (fun hD => ?_) (fun hD => ?_)
        · have hD' : 16 ≤ b.getD 0 0 := of_decide_eq_true hD
          repeat ((conv => whnf); first | with_reducible refine O_step ?_ | with_reducible refine S_step ?_ | with_reducible refine D_step ?_ | with_reducible refine RO.exit ?_ | with_reducible refine RO.ret ?_ | ((with_reducible refine And.intro ?sc ?_); case sc => exact side) | ((with_reducible refine br_f ?sc ?_); case sc => exact sideB) | ((with_reducible refine br_t ?sc ?_); case sc => exact sideB))
          exact fin _ 131 (by decide) (by rw [palD, if_neg (by omega), if_pos (by omega)])
        · have hD' : ¬ 16 ≤ b.getD 0 0 := of_decide_eq_false hD
          obtain ⟨k, hk⟩ : ∃ k : Nat, b.getD 0 0 + 1 = k := ⟨(b.getD 0 0).toNat + 1, by omega⟩
          have hkk : (b.getD 0 0).toNat + 1 = k := by omega
          have hs4 := sizeF_le k
          have hns : N * sizeF k ≤ N * 4 := Nat.mul_le_mul_left _ hs4
          have hP : palD b N = if b.length ≠ 1 + 3 * k + (N * sizeF k + 7) / 8 then ([], 131) else palV b k N := by
            rw [palD, if_neg (by omega), if_neg (by omega), hkk]; rfl
          repeat ((conv => whnf); first | with_reducible refine O_step ?_ | with_reducible refine S_step ?_ | with_reducible refine D_step ?_ | with_reducible refine RO.exit ?_ | with_reducible refine RO.ret ?_ | ((with_reducible refine And.intro ?sc ?_); case sc => exact side) | ((with_reducible refine br_f ?sc ?_); case sc => exact sideB) | ((with_reducible refine br_t ?sc ?_); case sc => exact sideB))
          rw [show Int.toNat 0 + 0 = 0 from rfl]
          repeat ((conv => whnf); first | with_reducible refine O_step ?_ | with_reducible refine S_step ?_ | with_reducible refine D_step ?_ | with_reducible refine RO.exit ?_ | with_reducible refine RO.ret ?_ | ((with_reducible refine And.intro ?sc ?_); case sc => exact side) | ((with_reducible refine br_f ?sc ?_); case sc => exact sideB) | ((with_reducible refine br_t ?sc ?_); case sc => exact sideB))
          rw [hk]
          repeat ((conv => whnf); first | with_reducible refine O_step ?_ | with_reducible refine S_step ?_ | with_reducible refine D_step ?_ | with_reducible refine RO.exit ?_ | with_reducible refine RO.ret ?_ | ((with_reducible refine And.intro ?sc ?_); case sc => exact side) | ((with_reducible refine br_f ?sc ?_); case sc => exact sideB) | ((with_reducible refine br_t ?sc ?_); case sc => exact sideB))
          refine psize_at (k := (k : Int)) (by omega) ?_
          rw [show ((k : Int)).toNat = k from rfl]
          have hmul : (N : Int) * (sizeF k : Int) = ((N * sizeF k : Nat) : Int) := by push_cast; rfl
          have htd : (((N * sizeF k : Nat) : Int) + 7).tdiv 8 = (((N * sizeF k + 7) / 8 : Nat) : Int) := by
            rw [Int.tdiv_eq_ediv_of_nonneg (by omega)]; push_cast; rfl
          repeat ((conv => whnf); first | with_reducible refine O_step ?_ | with_reducible refine S_step ?_ | with_reducible refine D_step ?_ | with_reducible refine RO.exit ?_ | with_reducible refine RO.ret ?_ | ((with_reducible refine And.intro ?sc ?_); case sc => exact side) | ((with_reducible refine br_f ?sc ?_); case sc => exact sideB) | ((with_reducible refine br_t ?sc ?_); case sc => exact sideB))
          rw [hmul]
          repeat ((conv => whnf); first | with_reducible refine O_step ?_ | with_reducible refine S_step ?_ | with_reducible refine D_step ?_ | with_reducible refine RO.exit ?_ | with_reducible refine RO.ret ?_ | ((with_reducible refine And.intro ?sc ?_); case sc => exact side) | ((with_reducible refine br_f ?sc ?_); case sc => exact sideB) | ((with_reducible refine br_t ?sc ?_); case sc => exact sideB))
          rw [htd]
          repeat ((conv => whnf); first | with_reducible refine O_step ?_ | with_reducible refine S_step ?_ | with_reducible refine D_step ?_ | with_reducible refine RO.exit ?_ | with_reducible refine RO.ret ?_ | ((with_reducible refine And.intro ?sc ?_); case sc => exact side) | ((with_reducible refine br_f ?sc ?_); case sc => exact sideB) | ((with_reducible refine br_t ?sc ?_); case sc => exact sideB))
          refine And.intro (fun hE => ?_) (fun hE => ?_)
          · have hE' := nd_t hE
            repeat ((conv => whnf); first | with_reducible refine O_step ?_ | with_reducible refine S_step ?_ | with_reducible refine D_step ?_ | with_reducible refine RO.exit ?_ | with_reducible refine RO.ret ?_ | ((with_reducible refine And.intro ?sc ?_); case sc => exact side) | ((with_reducible refine br_f ?sc ?_); case sc => exact sideB) | ((with_reducible refine br_t ?sc ?_); case sc => exact sideB))
            exact fin _ 131 (by decide) (by rw [hP, if_pos (by omega)])
          · have hE' := nd_f hE
            rw [if_neg (by omega)] at hP
            have hbl : b.length = 1 + 3 * k + (N * sizeF k + 7) / 8 := by omega
            repeat ((conv => whnf); first | with_reducible refine O_step ?_ | with_reducible refine S_step ?_ | with_reducible refine D_step ?_ | with_reducible refine RO.exit ?_ | with_reducible refine RO.ret ?_ | ((with_reducible refine And.intro ?sc ?_); case sc => exact side) | ((with_reducible refine br_f ?sc ?_); case sc => exact sideB) | ((with_reducible refine br_t ?sc ?_); case sc => exact sideB))
            refine WO.go (σ := Nat) (fun i => i ≤ k) (fun i => k - i)
              (fun i => [(0, .sl 0 0 0 b.length c0), (1, .int .i64 N), (6, .int .i64 k), (7, .sl 1 0 0 k k), (54, .int .i64 k), (55, .int .i64 i)])
              (fun i => [.one false 0 (.ints .u8 b c), .one true 0 (.ints .u32 ((List.range i).map (colB b) ++ List.replicate (k - i) 0) k)]) 0 tb_ok mixed (by kernel_rfl)
              (Nat.zero_le _) (And.intro rfl (And.intro rfl (And.intro rfl (And.intro rfl (And.intro rfl (And.intro rfl (trivial))))))) (And.intro rfl (And.intro rfl (trivial))) (fun _ => rfl) (fun _ => rfl) (fun _ => ⟨trivial, trivial, trivial⟩) ?_
            rintro i hi d
            repeat ((conv => whnf); first | with_reducible refine O_step ?_ | with_reducible refine S_step ?_ | with_reducible refine D_step ?_ | with_reducible refine RO.exit ?_ | with_reducible refine RO.ret ?_ | ((with_reducible refine And.intro ?sc ?_); case sc => exact side) | ((with_reducible refine br_f ?sc ?_); case sc => exact sideB) | ((with_reducible refine br_t ?sc ?_); case sc => exact sideB))
            refine And.intro (fun hF => ?_) (fun hF => ?_)
            · have hF' : (i : Int) < k := of_decide_eq_true hF
              have w1 := bget h0 (1 + 3 * i) (by omega)
              have w2 := bget h0 (2 + 3 * i) (by omega)
              have w3 := bget h0 (3 + 3 * i) (by omega)
              repeat ((conv => whnf); first | with_reducible refine O_step ?_ | with_reducible refine S_step ?_ | with_reducible refine D_step ?_ | with_reducible refine RO.exit ?_ | with_reducible refine RO.ret ?_ | ((with_reducible refine And.intro ?sc ?_); case sc => exact side) | ((with_reducible refine br_f ?sc ?_); case sc => exact sideB) | ((with_reducible refine br_t ?sc ?_); case sc => exact sideB))
              rw [offS_1 (by omega), show 0 + (1 + 3 * (i : Int)).toNat = 1 + 3 * i by omega]
              repeat ((conv => whnf); first | with_reducible refine O_step ?_ | with_reducible refine S_step ?_ | with_reducible refine D_step ?_ | with_reducible refine RO.exit ?_ | with_reducible refine RO.ret ?_ | ((with_reducible refine And.intro ?sc ?_); case sc => exact side) | ((with_reducible refine br_f ?sc ?_); case sc => exact sideB) | ((with_reducible refine br_t ?sc ?_); case sc => exact sideB))
              rw [show Int.toNat 0 + (1 + 3 * i) = 1 + 3 * i from Nat.zero_add _, show Int.toNat 1 + (1 + 3 * i) = 2 + 3 * i by show 1 + (1 + 3 * i) = _; omega, show Int.toNat 2 + (1 + 3 * i) = 3 + 3 * i by show 2 + (1 + 3 * i) = _; omega, pix3 w1 w2 w3]
              repeat ((conv => whnf); first | with_reducible refine O_step ?_ | with_reducible refine S_step ?_ | with_reducible refine D_step ?_ | with_reducible refine RO.exit ?_ | with_reducible refine RO.ret ?_ | ((with_reducible refine And.intro ?sc ?_); case sc => exact side) | ((with_reducible refine br_f ?sc ?_); case sc => exact sideB) | ((with_reducible refine br_t ?sc ?_); case sc => exact sideB))
              refine RO.same (i + 1) (by omega) (show k - (i + 1) < k - i by omega) (And.intro rfl (And.intro rfl (And.intro rfl (And.intro rfl (And.intro rfl (And.intro rfl (trivial))))))) (And.intro rfl (And.intro ?_ trivial))
              have hset := set_next (colB b) i (k - (i + 1))
              rw [show k - (i + 1) + 1 = k - i by omega] at hset
              exact congrArg (fun l => AO.one true 0 (.ints .u32 l k)) hset.symm
            · have hF' : ¬ (i : Int) < k := of_decide_eq_false hF
              obtain rfl : i = k := by omega
              have eC : (List.range i).map (colB b) ++ List.replicate (i - i) 0 = (List.range i).map (colB b) := by simp
              rw [eC]
              obtain ⟨C, hC⟩ : ∃ C, C = (List.range i).map (colB b) := ⟨_, rfl⟩
              have hCl : C.length = i := by rw [hC]; simp
              rw [← hC]
              obtain ⟨X, hX⟩ : ∃ X, X = b.drop (1 + 3 * i) := ⟨_, rfl⟩
              have hXl : X.length = (N * sizeF i + 7) / 8 := by rw [hX, List.length_drop]; omega
              have hXb : ∀ x ∈ X, 0 ≤ x ∧ x < 256 := fun x hx => by rw [hX] at hx; exact h0 x (List.mem_of_mem_drop hx)
              have hu := unpack_length X
              repeat ((conv => whnf); first | with_reducible refine O_step ?_ | with_reducible refine S_step ?_ | with_reducible refine D_step ?_ | with_reducible refine RO.exit ?_ | with_reducible refine RO.ret ?_ | ((with_reducible refine And.intro ?sc ?_); case sc => exact side) | ((with_reducible refine br_f ?sc ?_); case sc => exact sideB) | ((with_reducible refine br_t ?sc ?_); case sc => exact sideB))
              have hoff : offS c0 (1 + 3 * i) 0 1 + X.length ≤ c ∧ X = (b.drop (offS c0 (1 + 3 * i) 0 1)).take X.length := by
                unfold offS
                by_cases hcc : c0 = 1 + 3 * i
                · rw [if_pos hcc]
                  have : X = [] := List.eq_nil_of_length_eq_zero (by omega)
                  rw [this]; exact ⟨Nat.zero_le _, by simp⟩
                · rw [if_neg hcc, show 0 + (1 + 3 * i) * 1 = 1 + 3 * i by omega]
                  refine ⟨by omega, ?_⟩
                  rw [← hX, List.take_length]
              refine new_win (i := 0) (ys := b) (xs := X) rfl (show b.length - (1 + 3 * (i : Int)).toNat = X.length by omega) hoff.2 hoff.1 (by omega) (fun g1 c1 hc1 => ?_)
              repeat ((conv => whnf); first | with_reducible refine O_step ?_ | with_reducible refine S_step ?_ | with_reducible refine D_step ?_ | with_reducible refine RO.exit ?_ | with_reducible refine RO.ret ?_ | ((with_reducible refine And.intro ?sc ?_); case sc => exact side) | ((with_reducible refine br_f ?sc ?_); case sc => exact sideB) | ((with_reducible refine br_t ?sc ?_); case sc => exact sideB))
              obtain ⟨s, hs⟩ : ∃ s, s = sizeF i := ⟨_, rfl⟩
              rw [← hs] at hns hXl hs4
              obtain ⟨f, hf⟩ : ∃ f : Nat → Int, f = fun q => colB b (valB b i s q).toNat := ⟨_, rfl⟩
              refine WO.go (σ := Nat) (fun j => j ≤ N ∧ ∀ q, q < j → valB b i s q < i) (fun j => N - j)
                (fun j => [(6, .int .i64 i), (7, .sl 1 0 0 i i), (10, .ptr 3 0 0), (11, .sl 4 0 0 N N), (92, .int .i64 N), (93, .int .i64 j)])
                (fun j => [.one false 0 (.ints .u8 b c), .one true 0 (.ints .u32 C i), rb g1 c1 X, ro 2 g1 c1 X (j * s), .one true 0 (.ints .u32 ((List.range j).map f ++ List.replicate (N - j) 0) N)]) 0 tb_ok mixed (by kernel_rfl)
                ⟨Nat.zero_le _, fun q hq => absurd hq (Nat.not_lt_zero _)⟩ (And.intro rfl (And.intro rfl (And.intro rfl (And.intro rfl (And.intro rfl (And.intro rfl (trivial))))))) (And.intro rfl (And.intro rfl (And.intro rfl (And.intro (by rw [Nat.zero_mul]; rfl) (And.intro rfl trivial))))) (fun _ => rfl) (fun _ => rfl) (fun _ => ⟨trivial, trivial, trivial, rfl, trivial, trivial⟩) ?_
              rintro j ⟨hj, hv⟩ d2
              have hjs : j * s ≤ N * s := Nat.mul_le_mul_right _ hj
              repeat ((conv => whnf); first | with_reducible refine O_step ?_ | with_reducible refine S_step ?_ | with_reducible refine D_step ?_ | with_reducible refine RO.exit ?_ | with_reducible refine RO.ret ?_ | ((with_reducible refine And.intro ?sc ?_); case sc => exact side) | ((with_reducible refine br_f ?sc ?_); case sc => exact sideB) | ((with_reducible refine br_t ?sc ?_); case sc => exact sideB))
              refine And.intro (fun hG => ?_) (fun hG => ?_)
              · have hG' : (j : Int) < N := of_decide_eq_true hG
                have hjs1 : (j + 1) * s ≤ N * s := Nat.mul_le_mul_right _ (by omega)
                rw [Nat.add_mul, Nat.one_mul] at hjs1
                have hvb := valB_bound b i j
                have hget : getF X (j * s) (s : Int) = (valB b i s j, j * s + s, 0) := by
                  unfold getF valB
                  rw [if_neg (by omega), if_neg (by omega), ← hX]; rfl
                rw [← hs] at hvb
                repeat ((conv => whnf); first | with_reducible refine O_step ?_ | with_reducible refine S_step ?_ | with_reducible refine D_step ?_ | with_reducible refine RO.exit ?_ | with_reducible refine RO.ret ?_ | ((with_reducible refine And.intro ?sc ?_); case sc => exact side) | ((with_reducible refine br_f ?sc ?_); case sc => exact sideB) | ((with_reducible refine br_t ?sc ?_); case sc => exact sideB))
                refine psize_at (k := (i : Int)) (by omega) ?_
                rw [show ((i : Int)).toNat = i from rfl, ← hs]
                repeat ((conv => whnf); first | with_reducible refine O_step ?_ | with_reducible refine S_step ?_ | with_reducible refine D_step ?_ | with_reducible refine RO.exit ?_ | with_reducible refine RO.ret ?_ | ((with_reducible refine And.intro ?sc ?_); case sc => exact side) | ((with_reducible refine br_f ?sc ?_); case sc => exact sideB) | ((with_reducible refine br_t ?sc ?_); case sc => exact sideB))
                refine get_at (i := 3) (j := 2) rfl rfl rfl (by omega) (by omega) hXb hget ?_
                repeat ((conv => whnf); first | with_reducible refine O_step ?_ | with_reducible refine S_step ?_ | with_reducible refine D_step ?_ | with_reducible refine RO.exit ?_ | with_reducible refine RO.ret ?_ | ((with_reducible refine And.intro ?sc ?_); case sc => exact side) | ((with_reducible refine br_f ?sc ?_); case sc => exact sideB) | ((with_reducible refine br_t ?sc ?_); case sc => exact sideB))
                refine And.intro (fun hH => ?_) (fun hH => ?_)
                · have hH' : ¬ valB b i s j < i := by have hq := of_decide_eq_true hH; clear hmul htd; omega
                  repeat ((conv => whnf); first | with_reducible refine O_step ?_ | with_reducible refine S_step ?_ | with_reducible refine D_step ?_ | with_reducible refine RO.exit ?_ | with_reducible refine RO.ret ?_ | ((with_reducible refine And.intro ?sc ?_); case sc => exact side) | ((with_reducible refine br_f ?sc ?_); case sc => exact sideB) | ((with_reducible refine br_t ?sc ?_); case sc => exact sideB))
                  exact fin _ 131 (by decide) (by rw [hP]; exact palV_bad (i := j) (by omega) (by rw [← hs]; exact hH'))
                · have hH' : valB b i s j < i := by have := of_decide_eq_false hH; omega
                  repeat ((conv => whnf); first | with_reducible refine O_step ?_ | with_reducible refine S_step ?_ | with_reducible refine D_step ?_ | with_reducible refine RO.exit ?_ | with_reducible refine RO.ret ?_ | ((with_reducible refine And.intro ?sc ?_); case sc => exact side) | ((with_reducible refine br_f ?sc ?_); case sc => exact sideB) | ((with_reducible refine br_t ?sc ?_); case sc => exact sideB))
                  have hvC : (valB b i s j).toNat < C.length := by omega
                  have hval : C.getD ((valB b i s j).toNat + 0) 0 = f j := by
                    rw [hf, hC]
                    show ((List.range i).map (colB b)).getD (valB b i s j).toNat 0 = colB b (valB b i s j).toNat
                    rw [getD_get (by simp; omega)]
                    simp
                  rw [hval]
                  refine RO.same (j + 1) ⟨by omega, fun q hq => ?_⟩ (show N - (j + 1) < N - j by omega) (And.intro rfl (And.intro rfl (And.intro rfl (And.intro rfl (And.intro rfl (And.intro rfl (trivial))))))) (And.intro rfl (And.intro rfl (And.intro rfl (And.intro ?_ (And.intro ?_ trivial)))))
                  · by_cases hqj : q = j
                    · subst hqj; exact hH'
                    · exact hv q (by omega)
                  · rw [Nat.add_mul, Nat.one_mul]; rfl
                  · have hset := set_next f j (N - (j + 1))
                    rw [show N - (j + 1) + 1 = N - j by omega] at hset
                    exact congrArg (fun l => AO.one true 0 (.ints .u32 l N)) hset.symm
              · have hG' : ¬ (j : Int) < N := of_decide_eq_false hG
                obtain rfl : j = N := by omega
                repeat ((conv => whnf); first | with_reducible refine O_step ?_ | with_reducible refine S_step ?_ | with_reducible refine D_step ?_ | with_reducible refine RO.exit ?_ | with_reducible refine RO.ret ?_ | ((with_reducible refine And.intro ?sc ?_); case sc => exact side) | ((with_reducible refine br_f ?sc ?_); case sc => exact sideB) | ((with_reducible refine br_t ?sc ?_); case sc => exact sideB))
                refine left_at (i := 3) (j := 2) rfl rfl rfl (by omega) (by omega) ?_
                repeat ((conv => whnf); first | with_reducible refine O_step ?_ | with_reducible refine S_step ?_ | with_reducible refine D_step ?_ | with_reducible refine RO.exit ?_ | with_reducible refine RO.ret ?_ | ((with_reducible refine And.intro ?sc ?_); case sc => exact side) | ((with_reducible refine br_f ?sc ?_); case sc => exact sideB) | ((with_reducible refine br_t ?sc ?_); case sc => exact sideB))
                have hrest : 8 * X.length - j * s < 8 := by omega
                have hget : getF X (j * s) (8 * (X.length : Int) - ((j * s : Nat) : Int)) = (num ((unpack X).drop (j * s)), 8 * X.length, 0) := by
                  unfold getF
                  rw [if_neg (by omega), if_neg (by omega)]
                  rw [show (8 * (X.length : Int) - ((j * s : Nat) : Int)).toNat = 8 * X.length - j * s by omega, List.take_of_length_le (by rw [List.length_drop]; omega), show j * s + (8 * X.length - j * s) = 8 * X.length by omega]
                refine get_at (i := 3) (j := 2) rfl rfl rfl (by omega) (by omega) hXb hget ?_
                have hV := palV_ok (b := b) (k := i) (N := j) (by rw [← hs]; exact hv)
                rw [← hX, ← hs] at hV
                repeat ((conv => whnf); first | with_reducible refine O_step ?_ | with_reducible refine S_step ?_ | with_reducible refine D_step ?_ | with_reducible refine RO.exit ?_ | with_reducible refine RO.ret ?_ | ((with_reducible refine And.intro ?sc ?_); case sc => exact side) | ((with_reducible refine br_f ?sc ?_); case sc => exact sideB) | ((with_reducible refine br_t ?sc ?_); case sc => exact sideB))
                refine And.intro (fun hH => ?_) (fun hH => ?_)
                · have hH' := nd_t hH
                  rw [if_neg hH'] at hV
                  repeat ((conv => whnf); first | with_reducible refine O_step ?_ | with_reducible refine S_step ?_ | with_reducible refine D_step ?_ | with_reducible refine RO.exit ?_ | with_reducible refine RO.ret ?_ | ((with_reducible refine And.intro ?sc ?_); case sc => exact side) | ((with_reducible refine br_f ?sc ?_); case sc => exact sideB) | ((with_reducible refine br_t ?sc ?_); case sc => exact sideB))
                  exact fin _ 131 (by decide) (by rw [hP]; exact hV)
                · have hH' := nd_f hH
                  rw [if_pos hH'] at hV
                  repeat ((conv => whnf); first | with_reducible refine O_step ?_ | with_reducible refine S_step ?_ | with_reducible refine D_step ?_ | with_reducible refine RO.exit ?_ | with_reducible refine RO.ret ?_ | ((with_reducible refine And.intro ?sc ?_); case sc => exact side) | ((with_reducible refine br_f ?sc ?_); case sc => exact sideB) | ((with_reducible refine br_t ?sc ?_); case sc => exact sideB))
                  have e : (List.range j).map f ++ List.replicate (j - j) 0 = (List.range j).map f := by simp
                  have e2 : ((List.range j).map f).length = j := by simp
                  rw [e]
                  exact ⟨[.one false 0 (.ints .u8 b c), .gone, .gone, .gone, .one true 0 (.ints .u32 ((List.range j).map f) ((List.range j).map f).length)], And.intro rfl (And.intro trivial (And.intro trivial (And.intro trivial (And.intro (by rw [e2]) trivial)))), ⟨trivial, trivial, trivial, trivial, trivial, trivial⟩, rfl, Or.inl ⟨(List.range j).map f, by rw [hP, hV, hf], by rw [e2], rfl⟩⟩
theorem pdec_at {M : AH} {K Kp : AV → AH → Prop} {i g m c co : Nat} {o : Bool} {b : List Int} {n : Int} (hi : M[i]? = some (.one o g (.ints .u8 b co))) (hm : m = b.length) (hb : b.length ≤ 1000000) (hc : m ≤ c ∧ c ≤ co) (h0 : ∀ x ∈ b, 0 ≤ x ∧ x < 256)
    (h : ∀ l, palD b n = (l, 0) → K (.tup [.sl (M.length + 3) 0 0 l.length l.length, .int .i64 0]) (M ++ [.gone, .gone, .gone, .one true 0 (.ints .u32 l l.length)]))
    (h1 : ∀ e, e ≠ 0 → palD b n = ([], e) → K (.tup [.ns, .int .i64 e]) M) : CallA Try.prog 24 [.sl i g 0 m c, .int .i64 n] M K Kp := by
  subst hm
  refine CallA.lift [.win i g 0] (pdec_call (b := b) (c0 := c) (c := co) (n := n) (Kp := fun _ _ => False) hb hc h0) rfl rfl ⟨⟨_, _, _, rfl, slot_one hi, WinC.same rfl (fun h => h)⟩, trivial⟩ ⟨trivial, trivial⟩ ?_ (fun _ _ h => h.elim)
  rintro r M' (⟨l, h2, rfl, rfl⟩ | ⟨e, he, h2, rfl, rfl⟩)
  · exact ⟨⟨rfl, rfl⟩, h l h2⟩
  · refine ⟨⟨rfl, rfl⟩, ?_⟩
    have := h1 e he h2
    rw [← List.append_nil M] at this
    exact this
end Go.Proofs.Ytaioclggifdnhaa


set_option linter.unusedVariables false

set_option linter.unusedSimpArgs false

open Go.RowKit

namespace Go.Proofs.Ytaioclggifdnhaa

set_option maxRecDepth 10000

theorem num_zero : ∀ (l : List Bool), num l = 0 ↔ ∀ q, q < l.length → l.getD q false = false
  | [] => by simp [num]
  | b :: l => by
    have hn := num_nonneg l
    simp only [num]
    constructor
    · intro h q hq
      have hb : b = false := by cases b; rfl; simp at h; omega
      have hl : num l = 0 := by subst hb; simp at h; omega
      cases q with
      | zero => simp [hb]
      | succ q => simpa using (num_zero l).1 hl q (by simpa using hq)
    · intro h
      have hb : b = false := by simpa using h 0 (by simp)
      have hl : num l = 0 := (num_zero l).2 fun q hq => by simpa using h (q + 1) (by simpa using hq)
      rw [hb, hl]; rfl
theorem rpdec_call {b : List Int} {c0 c : Nat} {n : Int} (hb : b.length ≤ 1000000) (hc0 : b.length ≤ c0 ∧ c0 ≤ c) (h0 : ∀ x ∈ b, 0 ≤ x ∧ x < 256) {Kp} :
    CallA Try.prog 25 [.sl 0 0 0 b.length c0, .int .i64 n] [.one false 0 (.ints .u8 b c)]
      (fun r M => (∃ l g' c', palD b n = (l, 0) ∧ r = .tup [.sl 3 g' 0 l.length c', .int .i64 0] ∧ M = [.one false 0 (.ints .u8 b c), .gone, .gone, .one true g' (.ints .u32 l c')] ∧ l.length ≤ c') ∨
        (∃ e, e ≠ 0 ∧ palD b n = ([], e) ∧ r = .tup [.ns, .int .i64 e] ∧ M = [.one false 0 (.ints .u8 b c)])) Kp := by
  refine CallA.post_sub ?_
  have fin : ∀ (M : AH) (e : Int), e ≠ 0 → palD b n = ([], e) → ∃ N, subA (.one false 0 (.ints .u8 b c) :: M) N ∧ nbH N.length N ∧ ((AV.tup [.ns, .int .i64 e]).nb N.length && Nat.ble [AO.one false 0 (.ints .u8 b c)].length N.length) = true ∧ ((∃ l g' c', palD b n = (l, 0) ∧ AV.tup [.ns, .int .i64 e] = .tup [.sl 3 g' 0 l.length c', .int .i64 0] ∧ N = [.one false 0 (.ints .u8 b c), .gone, .gone, .one true g' (.ints .u32 l c')] ∧ l.length ≤ c') ∨
        (∃ e', e' ≠ 0 ∧ palD b n = ([], e') ∧ AV.tup [.ns, .int .i64 e] = .tup [.ns, .int .i64 e'] ∧ N = [.one false 0 (.ints .u8 b c)])) := fun M e h1 h2 => ⟨[.one false 0 (.ints .u8 b c)], ⟨rfl, subA_nil M⟩, ⟨trivial, trivial⟩, rfl, Or.inr ⟨e, h1, h2, rfl, rfl⟩⟩
  refine step25 (fun _ => [0]) [] rfl ?_
  repeat ((conv => whnf); first | with_reducible refine O_step ?_ | with_reducible refine S_step ?_ | with_reducible refine D_step ?_ | with_reducible refine RO.exit ?_ | with_reducible refine RO.ret ?_ | ((with_reducible refine And.intro ?sc ?_); case sc => exact side) | ((with_reducible refine br_f ?sc ?_); case sc => exact sideB) | ((with_reducible refine br_t ?sc ?_); case sc => exact sideB))
  refine And.intro (fun hA => ?_) (fun hA => ?_)
  · have hA' : n < 1 := of_decide_eq_true hA
    repeat ((conv => whnf); first | with_reducible refine O_step ?_ | with_reducible refine S_step ?_ | with_reducible refine D_step ?_ | with_reducible refine RO.exit ?_ | with_reducible refine RO.ret ?_ | ((with_reducible refine And.intro ?sc ?_); case sc => exact side) | ((with_reducible refine br_f ?sc ?_); case sc => exact sideB) | ((with_reducible refine br_t ?sc ?_); case sc => exact sideB))
    exact fin _ 1 (by decide) (by rw [palD, if_pos (by omega)])
  · have hA' : ¬ n < 1 := of_decide_eq_false hA
    repeat ((conv => whnf); first | with_reducible refine O_step ?_ | with_reducible refine S_step ?_ | with_reducible refine D_step ?_ | with_reducible refine RO.exit ?_ | with_reducible refine RO.ret ?_ | ((with_reducible refine And.intro ?sc ?_); case sc => exact side) | ((with_reducible refine br_f ?sc ?_); case sc => exact sideB) | ((with_reducible refine br_t ?sc ?_); case sc => exact sideB))
    refine And.intro (fun hB => ?_) (fun hB => ?_)
    · have hB' : n > 65536 := of_decide_eq_true hB
      repeat ((conv => whnf); first | with_reducible refine O_step ?_ | with_reducible refine S_step ?_ | with_reducible refine D_step ?_ | with_reducible refine RO.exit ?_ | with_reducible refine RO.ret ?_ | ((with_reducible refine And.intro ?sc ?_); case sc => exact side) | ((with_reducible refine br_f ?sc ?_); case sc => exact sideB) | ((with_reducible refine br_t ?sc ?_); case sc => exact sideB))
      exact fin _ 1 (by decide) (by rw [palD, if_pos (by omega)])
    · have hB' : ¬ n > 65536 := of_decide_eq_false hB
      obtain ⟨N, rfl⟩ : ∃ N : Nat, n = N := ⟨n.toNat, by omega⟩
      repeat ((conv => whnf); first | with_reducible refine O_step ?_ | with_reducible refine S_step ?_ | with_reducible refine D_step ?_ | with_reducible refine RO.exit ?_ | with_reducible refine RO.ret ?_ | ((with_reducible refine And.intro ?sc ?_); case sc => exact side) | ((with_reducible refine br_f ?sc ?_); case sc => exact sideB) | ((with_reducible refine br_t ?sc ?_); case sc => exact sideB))
      refine And.intro (fun hC => ?_) (fun hC => ?_)
      · have hC' : (b.length : Int) < 1 := of_decide_eq_true hC
        repeat ((conv => whnf); first | with_reducible refine O_step ?_ | with_reducible refine S_step ?_ | with_reducible refine D_step ?_ | with_reducible refine RO.exit ?_ | with_reducible refine RO.ret ?_ | ((with_reducible refine And.intro ?sc ?_); case sc => exact side) | ((with_reducible refine br_f ?sc ?_); case sc => exact sideB) | ((with_reducible refine br_t ?sc ?_); case sc => exact sideB))
        exact fin _ 131 (by decide) (by rw [palD, if_neg (by omega), if_pos (by omega)])
      · have hC' : ¬ (b.length : Int) < 1 := of_decide_eq_false hC
        have v0 := bget h0 0 (by omega)
        repeat ((conv => whnf); first | with_reducible refine O_step ?_ | with_reducible refine S_step ?_ | with_reducible refine D_step ?_ | with_reducible refine RO.exit ?_ | with_reducible refine RO.ret ?_ | ((with_reducible refine And.intro ?sc ?_); case sc => exact side) | ((with_reducible refine br_f ?sc ?_); case sc => exact sideB) | ((with_reducible refine br_t ?sc ?_); case sc => exact sideB))
        rw [show Int.toNat 0 + 0 = 0 from rfl]
        refine And.intro (fun hD => ?_) (fun hD => ?_)
        · have hD' : 15 < b.getD 0 0 := of_decide_eq_true hD
          repeat ((conv => whnf); first | with_reducible refine O_step ?_ | with_reducible refine S_step ?_ | with_reducible refine D_step ?_ | with_reducible refine RO.exit ?_ | with_reducible refine RO.ret ?_ | ((with_reducible refine And.intro ?sc ?_); case sc => exact side) | ((with_reducible refine br_f ?sc ?_); case sc => exact sideB) | ((with_reducible refine br_t ?sc ?_); case sc => exact sideB))
          exact fin _ 131 (by decide) (by rw [palD, if_neg (by omega), if_pos (by omega)])
        · have hD' : ¬ 15 < b.getD 0 0 := of_decide_eq_false hD
          obtain ⟨k, hk⟩ : ∃ k : Nat, b.getD 0 0 + 1 = k := ⟨(b.getD 0 0).toNat + 1, by omega⟩
          have hkk : (b.getD 0 0).toNat + 1 = k := by omega
          obtain ⟨s, hs⟩ : ∃ s, s = sizeF k := ⟨_, rfl⟩
          have hs4 := sizeF_le k
          rw [← hs] at hs4
          have hns : N * s ≤ N * 4 := Nat.mul_le_mul_left _ hs4
          have hP : palD b N = if b.length ≠ 1 + 3 * k + (N * s + 7) / 8 then ([], 131) else palV b k N := by
            rw [palD, if_neg (by omega), if_neg (by omega), hkk, hs]; rfl
          have hmul : (N : Int) * (s : Int) = ((N * s : Nat) : Int) := by push_cast; rfl
          repeat ((conv => whnf); first | with_reducible refine O_step ?_ | with_reducible refine S_step ?_ | with_reducible refine D_step ?_ | with_reducible refine RO.exit ?_ | with_reducible refine RO.ret ?_ | ((with_reducible refine And.intro ?sc ?_); case sc => exact side) | ((with_reducible refine br_f ?sc ?_); case sc => exact sideB) | ((with_reducible refine br_t ?sc ?_); case sc => exact sideB))
          rw [show Int.toNat 0 + 0 = 0 from rfl]
          repeat ((conv => whnf); first | with_reducible refine O_step ?_ | with_reducible refine S_step ?_ | with_reducible refine D_step ?_ | with_reducible refine RO.exit ?_ | with_reducible refine RO.ret ?_ | ((with_reducible refine And.intro ?sc ?_); case sc => exact side) | ((with_reducible refine br_f ?sc ?_); case sc => exact sideB) | ((with_reducible refine br_t ?sc ?_); case sc => exact sideB))
          rw [hk]
          repeat ((conv => whnf); first | with_reducible refine O_step ?_ | with_reducible refine S_step ?_ | with_reducible refine D_step ?_ | with_reducible refine RO.exit ?_ | with_reducible refine RO.ret ?_ | ((with_reducible refine And.intro ?sc ?_); case sc => exact side) | ((with_reducible refine br_f ?sc ?_); case sc => exact sideB) | ((with_reducible refine br_t ?sc ?_); case sc => exact sideB))
          refine And.intro (fun hE => ?_) (fun hE => ?_)
          · have hE' : (b.length : Int) < 1 + 3 * k := of_decide_eq_true hE
            repeat ((conv => whnf); first | with_reducible refine O_step ?_ | with_reducible refine S_step ?_ | with_reducible refine D_step ?_ | with_reducible refine RO.exit ?_ | with_reducible refine RO.ret ?_ | ((with_reducible refine And.intro ?sc ?_); case sc => exact side) | ((with_reducible refine br_f ?sc ?_); case sc => exact sideB) | ((with_reducible refine br_t ?sc ?_); case sc => exact sideB))
            exact fin _ 131 (by decide) (by rw [hP, if_pos (by omega)])
          · have hE' : ¬ (b.length : Int) < 1 + 3 * k := of_decide_eq_false hE
            repeat ((conv => whnf); first | with_reducible refine O_step ?_ | with_reducible refine S_step ?_ | with_reducible refine D_step ?_ | with_reducible refine RO.exit ?_ | with_reducible refine RO.ret ?_ | ((with_reducible refine And.intro ?sc ?_); case sc => exact side) | ((with_reducible refine br_f ?sc ?_); case sc => exact sideB) | ((with_reducible refine br_t ?sc ?_); case sc => exact sideB))
            refine WO.gov (σ := Nat × Nat × Nat × List Int) (fun (i, g, cc, ys) => i ≤ k ∧ ys.length ≤ cc ∧ ys = (List.range i).map (colB b)) (fun (i, _) => k - i)
              (fun (i, g, cc, ys) => [(0, .sl 0 0 0 b.length c0), (1, .int .i64 N), (6, .int .i64 k), (7, .sl 1 g 0 ys.length cc), (8, .int .i64 i)])
              (fun (i, g, cc, ys) => [.one false 0 (.ints .u8 b c), .one true g (.ints .u32 ys cc)]) (0, 0, 0, []) tb_ok mixed (by kernel_rfl)
              [(0, .sl 0 0 0 b.length c0), (1, .int .i64 N), (6, .int .i64 k), (7, .ns), (8, .int .i64 0)] _ ⟨Nat.zero_le _, Nat.zero_le _, rfl⟩ (And.intro rfl (And.intro rfl (And.intro rfl (And.intro rfl (And.intro rfl (trivial)))))) rfl (Vw.nils (x := .ints .u32 [] 0) ⟨rfl, rfl⟩ ?_) (And.intro rfl (And.intro rfl (trivial))) (fun _ => rfl) (fun _ => rfl) (fun _ => ⟨trivial, trivial, trivial⟩) ?_
            · exact And.intro (.inl rfl) (And.intro (.inl rfl) (And.intro (.inl rfl) (And.intro (.inr ⟨rfl, rfl⟩) (And.intro (.inl rfl) trivial))))
            rintro ⟨i, g, cc, ys⟩ ⟨h1, h2, h3⟩ d
            have hyl : ys.length = i := by rw [h3]; simp
            repeat ((conv => whnf); first | with_reducible refine O_step ?_ | with_reducible refine S_step ?_ | with_reducible refine D_step ?_ | with_reducible refine RO.exit ?_ | with_reducible refine RO.ret ?_ | ((with_reducible refine And.intro ?sc ?_); case sc => exact side) | ((with_reducible refine br_f ?sc ?_); case sc => exact sideB) | ((with_reducible refine br_t ?sc ?_); case sc => exact sideB))
            refine And.intro (fun hF => ?_) (fun hF => ?_)
            · have hF' : (i : Int) < k := of_decide_eq_true hF
              have w1 := bget h0 (1 + 3 * i) (by omega)
              have w2 := bget h0 (2 + 3 * i) (by omega)
              have w3 := bget h0 (3 + 3 * i) (by omega)
              repeat ((conv => whnf); first | with_reducible refine O_step ?_ | with_reducible refine S_step ?_ | with_reducible refine D_step ?_ | with_reducible refine RO.exit ?_ | with_reducible refine RO.ret ?_ | ((with_reducible refine And.intro ?sc ?_); case sc => exact side) | ((with_reducible refine br_f ?sc ?_); case sc => exact sideB) | ((with_reducible refine br_t ?sc ?_); case sc => exact sideB))
              intro zs hzs
              have hz : zs = [colB b i] := by
                have e : ((b.getD (1 + 3 * i) 0 % 4294967296 * 65536 % 4294967296 + b.getD (2 + 3 * i) 0 % 4294967296 * 256 % 4294967296) % 4294967296 + b.getD (3 + 3 * i) 0 % 4294967296) % 4294967296 = colB b i := by unfold colB; omega
                rw [hzs, ← e, show 1 + 3 * i = (1 + 3 * (i : Int)).toNat + 0 by omega, show 2 + 3 * i = (2 + 3 * (i : Int)).toNat + 0 by omega, show 3 + 3 * i = (3 + 3 * (i : Int)).toNat + 0 by omega]
                rfl
              subst hz
              repeat ((conv => whnf); first | with_reducible refine O_step ?_ | with_reducible refine S_step ?_ | with_reducible refine D_step ?_ | with_reducible refine RO.exit ?_ | with_reducible refine RO.ret ?_ | ((with_reducible refine And.intro ?sc ?_); case sc => exact side) | ((with_reducible refine br_f ?sc ?_); case sc => exact sideB) | ((with_reducible refine br_t ?sc ?_); case sc => exact sideB))
              intro c2 hc2
              repeat ((conv => whnf); first | with_reducible refine O_step ?_ | with_reducible refine S_step ?_ | with_reducible refine D_step ?_ | with_reducible refine RO.exit ?_ | with_reducible refine RO.ret ?_ | ((with_reducible refine And.intro ?sc ?_); case sc => exact side) | ((with_reducible refine br_f ?sc ?_); case sc => exact sideB) | ((with_reducible refine br_t ?sc ?_); case sc => exact sideB))
              refine RO.same (i + 1, g + 1, c2, ys ++ [colB b i]) ⟨by omega, by rw [List.length_append]; exact hc2, by rw [h3, List.range_succ]; simp⟩ (show k - (i + 1) < k - i by omega) (And.intro rfl (And.intro rfl (And.intro rfl (And.intro (by rw [List.length_append]; rfl) (And.intro rfl trivial))))) (And.intro rfl (And.intro rfl (subA_nil _)))
            · have hF' : ¬ (i : Int) < k := of_decide_eq_false hF
              obtain rfl : i = k := by omega
              obtain ⟨X, hX⟩ : ∃ X, X = b.drop (1 + 3 * i) := ⟨_, rfl⟩
              have hXl : X.length = b.length - (1 + 3 * i) := by rw [hX, List.length_drop]
              have hXb : ∀ x ∈ X, 0 ≤ x ∧ x < 256 := fun x hx => by rw [hX] at hx; exact h0 x (List.mem_of_mem_drop hx)
              have hu := unpack_length X
              repeat ((conv => whnf); first | with_reducible refine O_step ?_ | with_reducible refine S_step ?_ | with_reducible refine D_step ?_ | with_reducible refine RO.exit ?_ | with_reducible refine RO.ret ?_ | ((with_reducible refine And.intro ?sc ?_); case sc => exact side) | ((with_reducible refine br_f ?sc ?_); case sc => exact sideB) | ((with_reducible refine br_t ?sc ?_); case sc => exact sideB))
              have hoff : offS c0 (1 + 3 * i) 0 1 + X.length ≤ c ∧ X = (b.drop (offS c0 (1 + 3 * i) 0 1)).take X.length := by
                unfold offS
                by_cases hcc : c0 = 1 + 3 * i
                · rw [if_pos hcc]
                  have : X = [] := List.eq_nil_of_length_eq_zero (by omega)
                  rw [this]; exact ⟨Nat.zero_le _, by simp⟩
                · rw [if_neg hcc, show 0 + (1 + 3 * i) * 1 = 1 + 3 * i by omega]
                  refine ⟨by omega, ?_⟩
                  rw [← hX, List.take_length]
              refine rof_win (i := 0) (ys := b) (xs := X) rfl (show b.length - (1 + 3 * (i : Int)).toNat = X.length by omega) hoff.2 hoff.1 (by omega) hXb (fun g1 c1 hc1 => ?_)
              repeat ((conv => whnf); first | with_reducible refine O_step ?_ | with_reducible refine S_step ?_ | with_reducible refine D_step ?_ | with_reducible refine RO.exit ?_ | with_reducible refine RO.ret ?_ | ((with_reducible refine And.intro ?sc ?_); case sc => exact side) | ((with_reducible refine br_f ?sc ?_); case sc => exact sideB) | ((with_reducible refine br_t ?sc ?_); case sc => exact sideB))
              refine rsize_at (k := (i : Int)) (by omega) ?_
              rw [show ((i : Int)).toNat = i from rfl, ← hs]
              repeat ((conv => whnf); first | with_reducible refine O_step ?_ | with_reducible refine S_step ?_ | with_reducible refine D_step ?_ | with_reducible refine RO.exit ?_ | with_reducible refine RO.ret ?_ | ((with_reducible refine And.intro ?sc ?_); case sc => exact side) | ((with_reducible refine br_f ?sc ?_); case sc => exact sideB) | ((with_reducible refine br_t ?sc ?_); case sc => exact sideB))
              rw [hmul]
              repeat ((conv => whnf); first | with_reducible refine O_step ?_ | with_reducible refine S_step ?_ | with_reducible refine D_step ?_ | with_reducible refine RO.exit ?_ | with_reducible refine RO.ret ?_ | ((with_reducible refine And.intro ?sc ?_); case sc => exact side) | ((with_reducible refine br_f ?sc ?_); case sc => exact sideB) | ((with_reducible refine br_t ?sc ?_); case sc => exact sideB))
              refine And.intro (fun hG => ?_) (fun hG => ?_)
              · have hG' : ((unpack X).length : Int) < ((N * s : Nat) : Int) := of_decide_eq_true hG
                repeat ((conv => whnf); first | with_reducible refine O_step ?_ | with_reducible refine S_step ?_ | with_reducible refine D_step ?_ | with_reducible refine RO.exit ?_ | with_reducible refine RO.ret ?_ | ((with_reducible refine And.intro ?sc ?_); case sc => exact side) | ((with_reducible refine br_f ?sc ?_); case sc => exact sideB) | ((with_reducible refine br_t ?sc ?_); case sc => exact sideB))
                exact fin _ 131 (by decide) (by rw [hP, if_pos (by omega)])
              · have hG' : ¬ ((unpack X).length : Int) < ((N * s : Nat) : Int) := of_decide_eq_false hG
                repeat ((conv => whnf); first | with_reducible refine O_step ?_ | with_reducible refine S_step ?_ | with_reducible refine D_step ?_ | with_reducible refine RO.exit ?_ | with_reducible refine RO.ret ?_ | ((with_reducible refine And.intro ?sc ?_); case sc => exact side) | ((with_reducible refine br_f ?sc ?_); case sc => exact sideB) | ((with_reducible refine br_t ?sc ?_); case sc => exact sideB))
                refine And.intro (fun hH => ?_) (fun hH => ?_)
                · have hH' : 7 < ((unpack X).length : Int) - ((N * s : Nat) : Int) := of_decide_eq_true hH
                  repeat ((conv => whnf); first | with_reducible refine O_step ?_ | with_reducible refine S_step ?_ | with_reducible refine D_step ?_ | with_reducible refine RO.exit ?_ | with_reducible refine RO.ret ?_ | ((with_reducible refine And.intro ?sc ?_); case sc => exact side) | ((with_reducible refine br_f ?sc ?_); case sc => exact sideB) | ((with_reducible refine br_t ?sc ?_); case sc => exact sideB))
                  exact fin _ 131 (by decide) (by rw [hP, if_pos (by omega)])
                · have hH' : ¬ 7 < ((unpack X).length : Int) - ((N * s : Nat) : Int) := of_decide_eq_false hH
                  rw [if_neg (by omega)] at hP
                  repeat ((conv => whnf); first | with_reducible refine O_step ?_ | with_reducible refine S_step ?_ | with_reducible refine D_step ?_ | with_reducible refine RO.exit ?_ | with_reducible refine RO.ret ?_ | ((with_reducible refine And.intro ?sc ?_); case sc => exact side) | ((with_reducible refine br_f ?sc ?_); case sc => exact sideB) | ((with_reducible refine br_t ?sc ?_); case sc => exact sideB))
                  obtain ⟨f, hf⟩ : ∃ f : Nat → Int, f = fun q => colB b (valB b i s q).toNat := ⟨_, rfl⟩
                  refine WO.gov (σ := Nat × Nat × Nat × List Int) (fun (j, g3, c3, zs) => j ≤ N ∧ zs.length ≤ c3 ∧ zs = (List.range j).map f ∧ ∀ q, q < j → valB b i s q < i) (fun (j, _) => N - j)
                    (fun (j, g3, c3, zs) => [(1, .int .i64 N), (6, .int .i64 i), (7, .sl 1 g 0 ys.length cc), (9, .sl 2 g1 0 (unpack X).length c1), (10, .int .i64 ((N * s : Nat) : Int)), (11, .sl 3 g3 0 zs.length c3), (12, .int .i64 j)])
                    (fun (j, g3, c3, zs) => [.one false 0 (.ints .u8 b c), .one true g (.ints .u32 ys cc), .one true g1 (.bools (unpack X) c1), .one true g3 (.ints .u32 zs c3)]) (0, 0, 0, []) tb_ok mixed (by kernel_rfl)
                    [(1, .int .i64 N), (6, .int .i64 i), (7, .sl 1 g 0 ys.length cc), (9, .sl 2 g1 0 (unpack X).length c1), (10, .int .i64 ((N * s : Nat) : Int)), (11, .ns), (12, .int .i64 0)] _ ⟨Nat.zero_le _, Nat.zero_le _, rfl, fun q hq => absurd hq (Nat.not_lt_zero _)⟩ (And.intro rfl (And.intro rfl (And.intro rfl (And.intro rfl (And.intro rfl (And.intro rfl (And.intro rfl (trivial)))))))) rfl (Vw.nils (x := .ints .u32 [] 0) ⟨rfl, rfl⟩ ?_) (And.intro rfl (And.intro rfl (And.intro rfl (And.intro rfl (trivial))))) (fun _ => rfl) (fun _ => rfl) (fun _ => ⟨trivial, trivial, trivial, trivial, trivial⟩) ?_
                  · exact And.intro (.inl rfl) (And.intro (.inl rfl) (And.intro (.inl rfl) (And.intro (.inl rfl) (And.intro (.inl rfl) (And.intro (.inr ⟨rfl, rfl⟩) (And.intro (.inl rfl) trivial))))))
                  rintro ⟨j, g3, c3, zs⟩ ⟨hj, hz2, hz3, hv⟩ d2
                  have hzl : zs.length = j := by rw [hz3]; simp
                  have hjs : j * s ≤ N * s := Nat.mul_le_mul_right _ hj
                  repeat ((conv => whnf); first | with_reducible refine O_step ?_ | with_reducible refine S_step ?_ | with_reducible refine D_step ?_ | with_reducible refine RO.exit ?_ | with_reducible refine RO.ret ?_ | ((with_reducible refine And.intro ?sc ?_); case sc => exact side) | ((with_reducible refine br_f ?sc ?_); case sc => exact sideB) | ((with_reducible refine br_t ?sc ?_); case sc => exact sideB))
                  refine And.intro (fun hI => ?_) (fun hI => ?_)
                  · have hI' : (j : Int) < N := of_decide_eq_true hI
                    have hjs1 : (j + 1) * s ≤ N * s := Nat.mul_le_mul_right _ (by omega)
                    rw [Nat.add_mul, Nat.one_mul] at hjs1
                    have hvb := valB_bound b i j
                    rw [← hs] at hvb
                    have hjm : (j : Int) * (s : Int) = ((j * s : Nat) : Int) := by push_cast; rfl
                    repeat ((conv => whnf); first | with_reducible refine O_step ?_ | with_reducible refine S_step ?_ | with_reducible refine D_step ?_ | with_reducible refine RO.exit ?_ | with_reducible refine RO.ret ?_ | ((with_reducible refine And.intro ?sc ?_); case sc => exact side) | ((with_reducible refine br_f ?sc ?_); case sc => exact sideB) | ((with_reducible refine br_t ?sc ?_); case sc => exact sideB))
                    refine rsize_at (k := (i : Int)) (by omega) ?_
                    rw [show ((i : Int)).toNat = i from rfl, ← hs]
                    repeat ((conv => whnf); first | with_reducible refine O_step ?_ | with_reducible refine S_step ?_ | with_reducible refine D_step ?_ | with_reducible refine RO.exit ?_ | with_reducible refine RO.ret ?_ | ((with_reducible refine And.intro ?sc ?_); case sc => exact side) | ((with_reducible refine br_f ?sc ?_); case sc => exact sideB) | ((with_reducible refine br_t ?sc ?_); case sc => exact sideB))
                    rw [hjm]
                    repeat ((conv => whnf); first | with_reducible refine O_step ?_ | with_reducible refine S_step ?_ | with_reducible refine D_step ?_ | with_reducible refine RO.exit ?_ | with_reducible refine RO.ret ?_ | ((with_reducible refine And.intro ?sc ?_); case sc => exact side) | ((with_reducible refine br_f ?sc ?_); case sc => exact sideB) | ((with_reducible refine br_t ?sc ?_); case sc => exact sideB))
                    refine rsize_at (k := (i : Int)) (by omega) ?_
                    rw [show ((i : Int)).toNat = i from rfl, ← hs]
                    repeat ((conv => whnf); first | with_reducible refine O_step ?_ | with_reducible refine S_step ?_ | with_reducible refine D_step ?_ | with_reducible refine RO.exit ?_ | with_reducible refine RO.ret ?_ | ((with_reducible refine And.intro ?sc ?_); case sc => exact side) | ((with_reducible refine br_f ?sc ?_); case sc => exact sideB) | ((with_reducible refine br_t ?sc ?_); case sc => exact sideB))
                    rw [hjm]
                    repeat ((conv => whnf); first | with_reducible refine O_step ?_ | with_reducible refine S_step ?_ | with_reducible refine D_step ?_ | with_reducible refine RO.exit ?_ | with_reducible refine RO.ret ?_ | ((with_reducible refine And.intro ?sc ?_); case sc => exact side) | ((with_reducible refine br_f ?sc ?_); case sc => exact sideB) | ((with_reducible refine br_t ?sc ?_); case sc => exact sideB))
                    refine rsize_at (k := (i : Int)) (by omega) ?_
                    rw [show ((i : Int)).toNat = i from rfl, ← hs]
                    repeat ((conv => whnf); first | with_reducible refine O_step ?_ | with_reducible refine S_step ?_ | with_reducible refine D_step ?_ | with_reducible refine RO.exit ?_ | with_reducible refine RO.ret ?_ | ((with_reducible refine And.intro ?sc ?_); case sc => exact side) | ((with_reducible refine br_f ?sc ?_); case sc => exact sideB) | ((with_reducible refine br_t ?sc ?_); case sc => exact sideB))
                    have hw : offS c1 (j * s) 0 1 + s ≤ c1 ∧ ((unpack X).drop (j * s)).take s = ((unpack X).drop (offS c1 (j * s) 0 1)).take s := by
                      unfold offS
                      by_cases hcc : c1 = j * s
                      · rw [if_pos hcc]
                        obtain rfl : s = 0 := by omega
                        exact ⟨Nat.zero_le _, by simp⟩
                      · rw [if_neg hcc, show 0 + j * s * 1 = j * s by omega]
                        exact ⟨by omega, rfl⟩
                    have hwl : (((unpack X).drop (j * s)).take s).length = s := by rw [List.length_take, List.length_drop]; omega
                    refine rnumber_win (i := 2) (ys := unpack X) (xs := ((unpack X).drop (j * s)).take s) rfl (by rw [hwl]; omega) (by rw [hwl]; exact hw.2) (by rw [hwl]; exact hw.1) (by rw [hwl]; omega) ?_
                    have hval : num (((unpack X).drop (j * s)).take s) = valB b i s j := by unfold valB; rw [← hX]
                    rw [hval]
                    repeat ((conv => whnf); first | with_reducible refine O_step ?_ | with_reducible refine S_step ?_ | with_reducible refine D_step ?_ | with_reducible refine RO.exit ?_ | with_reducible refine RO.ret ?_ | ((with_reducible refine And.intro ?sc ?_); case sc => exact side) | ((with_reducible refine br_f ?sc ?_); case sc => exact sideB) | ((with_reducible refine br_t ?sc ?_); case sc => exact sideB))
                    refine And.intro (fun hJ => ?_) (fun hJ => ?_)
                    · have hJ' : ¬ valB b i s j < i := by have := of_decide_eq_true hJ; omega
                      repeat ((conv => whnf); first | with_reducible refine O_step ?_ | with_reducible refine S_step ?_ | with_reducible refine D_step ?_ | with_reducible refine RO.exit ?_ | with_reducible refine RO.ret ?_ | ((with_reducible refine And.intro ?sc ?_); case sc => exact side) | ((with_reducible refine br_f ?sc ?_); case sc => exact sideB) | ((with_reducible refine br_t ?sc ?_); case sc => exact sideB))
                      exact fin _ 131 (by decide) (by rw [hP]; exact palV_bad (i := j) (by omega) (by rw [← hs]; exact hJ'))
                    · have hJ' : valB b i s j < i := by have := of_decide_eq_false hJ; omega
                      repeat ((conv => whnf); first | with_reducible refine O_step ?_ | with_reducible refine S_step ?_ | with_reducible refine D_step ?_ | with_reducible refine RO.exit ?_ | with_reducible refine RO.ret ?_ | ((with_reducible refine And.intro ?sc ?_); case sc => exact side) | ((with_reducible refine br_f ?sc ?_); case sc => exact sideB) | ((with_reducible refine br_t ?sc ?_); case sc => exact sideB))
                      intro us hus
                      have hu2 : us = [f j] := by
                        rw [hus, hf]
                        show [ys.getD (valB b i s j).toNat 0] = [colB b (valB b i s j).toNat]
                        rw [getD_get (by omega)]
                        simp [h3]
                      subst hu2
                      repeat ((conv => whnf); first | with_reducible refine O_step ?_ | with_reducible refine S_step ?_ | with_reducible refine D_step ?_ | with_reducible refine RO.exit ?_ | with_reducible refine RO.ret ?_ | ((with_reducible refine And.intro ?sc ?_); case sc => exact side) | ((with_reducible refine br_f ?sc ?_); case sc => exact sideB) | ((with_reducible refine br_t ?sc ?_); case sc => exact sideB))
                      intro c5 hc5
                      repeat ((conv => whnf); first | with_reducible refine O_step ?_ | with_reducible refine S_step ?_ | with_reducible refine D_step ?_ | with_reducible refine RO.exit ?_ | with_reducible refine RO.ret ?_ | ((with_reducible refine And.intro ?sc ?_); case sc => exact side) | ((with_reducible refine br_f ?sc ?_); case sc => exact sideB) | ((with_reducible refine br_t ?sc ?_); case sc => exact sideB))
                      refine RO.same (j + 1, g3 + 1, c5, zs ++ [f j]) ⟨by omega, by rw [List.length_append]; exact hc5, by rw [hz3, List.range_succ]; simp, fun q hq => ?_⟩ (show N - (j + 1) < N - j by omega) (And.intro rfl (And.intro rfl (And.intro rfl (And.intro rfl (And.intro rfl (And.intro (by rw [List.length_append]; rfl) (And.intro rfl trivial))))))) (And.intro rfl (And.intro rfl (And.intro rfl (And.intro rfl (subA_nil _)))))
                      by_cases hqj : q = j
                      · subst hqj; exact hJ'
                      · exact hv q (by omega)
                  · have hI' : ¬ (j : Int) < N := of_decide_eq_false hI
                    obtain rfl : j = N := by omega
                    have hV := palV_ok (b := b) (k := i) (N := j) (by rw [← hs]; exact hv)
                    rw [← hX, ← hs] at hV
                    have hdl : ((unpack X).drop (j * s)).length = (unpack X).length - j * s := List.length_drop
                    have hdg : ∀ q, ((unpack X).drop (j * s)).getD q false = (unpack X).getD (j * s + q) false := fun q => by simp [List.getD_eq_getElem?_getD]
                    repeat ((conv => whnf); first | with_reducible refine O_step ?_ | with_reducible refine S_step ?_ | with_reducible refine D_step ?_ | with_reducible refine RO.exit ?_ | with_reducible refine RO.ret ?_ | ((with_reducible refine And.intro ?sc ?_); case sc => exact side) | ((with_reducible refine br_f ?sc ?_); case sc => exact sideB) | ((with_reducible refine br_t ?sc ?_); case sc => exact sideB))
                    refine WO.go (σ := Nat) (fun t => j * s ≤ t ∧ t ≤ (unpack X).length ∧ ∀ q, j * s ≤ q → q < t → (unpack X).getD q false = false) (fun t => (unpack X).length - t)
                      (fun t => [(9, .sl 2 g1 0 (unpack X).length c1), (11, .sl 3 g3 0 zs.length c3), (14, .int .i64 t)]) (fun _ => [.one false 0 (.ints .u8 b c), .one true g (.ints .u32 ys cc), .one true g1 (.bools (unpack X) c1), .one true g3 (.ints .u32 zs c3)]) (j * s) tb_ok mixed (by kernel_rfl)
                      ⟨Nat.le_refl _, by omega, fun q h1 h2 => by omega⟩ (And.intro rfl (And.intro rfl (And.intro rfl (trivial)))) (And.intro rfl (And.intro rfl (And.intro rfl (And.intro rfl (trivial))))) (fun _ => rfl) (fun _ => rfl) (fun _ => ⟨trivial, trivial, trivial, trivial, trivial⟩) ?_
                    rintro t ⟨t1, t2, t3⟩ d3
                    repeat ((conv => whnf); first | with_reducible refine O_step ?_ | with_reducible refine S_step ?_ | with_reducible refine D_step ?_ | with_reducible refine RO.exit ?_ | with_reducible refine RO.ret ?_ | ((with_reducible refine And.intro ?sc ?_); case sc => exact side) | ((with_reducible refine br_f ?sc ?_); case sc => exact sideB) | ((with_reducible refine br_t ?sc ?_); case sc => exact sideB))
                    refine And.intro (fun hK => ?_) (fun hK => ?_)
                    · have hK' : (t : Int) < (unpack X).length := of_decide_eq_true hK
                      repeat ((conv => whnf); first | with_reducible refine O_step ?_ | with_reducible refine S_step ?_ | with_reducible refine D_step ?_ | with_reducible refine RO.exit ?_ | with_reducible refine RO.ret ?_ | ((with_reducible refine And.intro ?sc ?_); case sc => exact side) | ((with_reducible refine br_f ?sc ?_); case sc => exact sideB) | ((with_reducible refine br_t ?sc ?_); case sc => exact sideB))
                      rw [show (t : Int).toNat + 0 = t from rfl]
                      refine And.intro (fun hL => ?_) (fun hL => ?_)
                      · have hne : ¬ num ((unpack X).drop (j * s)) = 0 := fun e => by
                          have := (num_zero _).1 e (t - j * s) (by omega)
                          rw [hdg, show j * s + (t - j * s) = t by omega, hL] at this
                          cases this
                        rw [if_neg hne] at hV
                        repeat ((conv => whnf); first | with_reducible refine O_step ?_ | with_reducible refine S_step ?_ | with_reducible refine D_step ?_ | with_reducible refine RO.exit ?_ | with_reducible refine RO.ret ?_ | ((with_reducible refine And.intro ?sc ?_); case sc => exact side) | ((with_reducible refine br_f ?sc ?_); case sc => exact sideB) | ((with_reducible refine br_t ?sc ?_); case sc => exact sideB))
                        exact fin _ 131 (by decide) (by rw [hP]; exact hV)
                      · repeat ((conv => whnf); first | with_reducible refine O_step ?_ | with_reducible refine S_step ?_ | with_reducible refine D_step ?_ | with_reducible refine RO.exit ?_ | with_reducible refine RO.ret ?_ | ((with_reducible refine And.intro ?sc ?_); case sc => exact side) | ((with_reducible refine br_f ?sc ?_); case sc => exact sideB) | ((with_reducible refine br_t ?sc ?_); case sc => exact sideB))
                        refine RO.same (t + 1) ⟨by omega, by omega, fun q h1 h2 => ?_⟩ (show (unpack X).length - (t + 1) < (unpack X).length - t by omega) (And.intro rfl (And.intro rfl (And.intro rfl (trivial)))) (And.intro rfl (And.intro rfl (And.intro rfl (And.intro rfl (trivial)))))
                        by_cases hqt : q = t
                        · subst hqt; exact hL
                        · exact t3 q h1 (by omega)
                    · have hK' : ¬ (t : Int) < (unpack X).length := of_decide_eq_false hK
                      have hz0 : num ((unpack X).drop (j * s)) = 0 := (num_zero _).2 fun q hq => by rw [hdg]; exact t3 _ (by omega) (by omega)
                      rw [if_pos hz0] at hV
                      repeat ((conv => whnf); first | with_reducible refine O_step ?_ | with_reducible refine S_step ?_ | with_reducible refine D_step ?_ | with_reducible refine RO.exit ?_ | with_reducible refine RO.ret ?_ | ((with_reducible refine And.intro ?sc ?_); case sc => exact side) | ((with_reducible refine br_f ?sc ?_); case sc => exact sideB) | ((with_reducible refine br_t ?sc ?_); case sc => exact sideB))
                      exact ⟨[.one false 0 (.ints .u8 b c), .gone, .gone, .one true g3 (.ints .u32 zs c3)], And.intro rfl (And.intro trivial (And.intro trivial (And.intro rfl trivial))), ⟨trivial, trivial, trivial, trivial, trivial⟩, rfl, Or.inl ⟨zs, g3, c3, by rw [hP, hV, hz3, hf], rfl, rfl, hz2⟩⟩
theorem rpdec_at {M : AH} {K Kp : AV → AH → Prop} {i g m c co : Nat} {o : Bool} {b : List Int} {n : Int} (hi : M[i]? = some (.one o g (.ints .u8 b co))) (hm : m = b.length) (hb : b.length ≤ 1000000) (hc : m ≤ c ∧ c ≤ co) (h0 : ∀ x ∈ b, 0 ≤ x ∧ x < 256)
    (h : ∀ l g' c', palD b n = (l, 0) → l.length ≤ c' → K (.tup [.sl (M.length + 2) g' 0 l.length c', .int .i64 0]) (M ++ [.gone, .gone, .one true g' (.ints .u32 l c')]))
    (h1 : ∀ e, e ≠ 0 → palD b n = ([], e) → K (.tup [.ns, .int .i64 e]) M) : CallA Try.prog 25 [.sl i g 0 m c, .int .i64 n] M K Kp := by
  subst hm
  refine CallA.lift [.win i g 0] (rpdec_call (b := b) (c0 := c) (c := co) (n := n) (Kp := fun _ _ => False) hb hc h0) rfl rfl ⟨⟨_, _, _, rfl, slot_one hi, WinC.same rfl (fun h => h)⟩, trivial⟩ ⟨trivial, trivial⟩ ?_ (fun _ _ h => h.elim)
  rintro r M' (⟨l, g', c', h2, rfl, rfl, h3⟩ | ⟨e, he, h2, rfl, rfl⟩)
  · exact ⟨⟨rfl, rfl⟩, h l g' c' h2 h3⟩
  · refine ⟨⟨rfl, rfl⟩, ?_⟩
    have := h1 e he h2
    rw [← List.append_nil M] at this
    exact this
end Go.Proofs.Ytaioclggifdnhaa


set_option linter.unusedVariables false

set_option linter.unusedSimpArgs false

open Go.RowKit

namespace Go.Proofs.Ytaioclggifdnhaa

set_option maxRecDepth 10000

theorem penc_ok {M : AH} {K Kp : AV → AH → Prop} {i g n c co : Nat} {o : Bool} {xs : List Int} (hp : ¬ palN xs) (hi : M[i]? = some (.one o g (.ints .u32 xs co))) (hn : n = xs.length) (hx : xs.length ≤ 1000000) (h0 : ∀ x ∈ xs, 0 ≤ x ∧ x < 4294967296)
    (h2 : ∀ g' c', (palB xs).length ≤ c' → K (.tup [.sl (M.length + 4) g' 0 (palB xs).length c', .bo true]) (M ++ [.gone, .gone, .gone, .gone, .one true g' (.ints .u8 (palB xs) c')])) : CallA Try.prog 21 [.sl i g 0 n c] M K Kp :=
  penc_at hi hn hx h0 (fun h => absurd h hp) (fun _ => h2)
theorem penc_no {M : AH} {K Kp : AV → AH → Prop} {i g n c co : Nat} {o : Bool} {xs : List Int} (hp : palN xs) (hi : M[i]? = some (.one o g (.ints .u32 xs co))) (hn : n = xs.length) (hx : xs.length ≤ 1000000) (h0 : ∀ x ∈ xs, 0 ≤ x ∧ x < 4294967296)
    (h1 : K (.tup [.ns, .bo false]) M) : CallA Try.prog 21 [.sl i g 0 n c] M K Kp :=
  penc_at hi hn hx h0 (fun _ => h1) (fun h => absurd hp h)
theorem pdec_ok {M : AH} {K Kp : AV → AH → Prop} {i g m c co : Nat} {o : Bool} {b l : List Int} {n : Int} (hd : palD b n = (l, 0)) (hi : M[i]? = some (.one o g (.ints .u8 b co))) (hm : m = b.length) (hb : b.length ≤ 1000000) (hc : m ≤ c ∧ c ≤ co) (h0 : ∀ x ∈ b, 0 ≤ x ∧ x < 256)
    (h : K (.tup [.sl (M.length + 3) 0 0 l.length l.length, .int .i64 0]) (M ++ [.gone, .gone, .gone, .one true 0 (.ints .u32 l l.length)])) : CallA Try.prog 24 [.sl i g 0 m c, .int .i64 n] M K Kp := by
  refine pdec_at hi hm hb hc h0 (fun l' hd' => ?_) (fun e he hd' => ?_)
  · obtain rfl : l = l' := by rw [hd] at hd'; exact congrArg Prod.fst hd'
    exact h
  · rw [hd] at hd'; exact absurd (congrArg Prod.snd hd').symm he
theorem pdec_bad {M : AH} {K Kp : AV → AH → Prop} {i g m c co : Nat} {o : Bool} {b : List Int} {n e : Int} (hd : palD b n = ([], e)) (he : e ≠ 0) (hi : M[i]? = some (.one o g (.ints .u8 b co))) (hm : m = b.length) (hb : b.length ≤ 1000000) (hc : m ≤ c ∧ c ≤ co) (h0 : ∀ x ∈ b, 0 ≤ x ∧ x < 256)
    (h : K (.tup [.ns, .int .i64 e]) M) : CallA Try.prog 24 [.sl i g 0 m c, .int .i64 n] M K Kp := by
  refine pdec_at hi hm hb hc h0 (fun l' hd' => ?_) (fun e' he' hd' => ?_)
  · rw [hd] at hd'; exact absurd (congrArg Prod.snd hd') he
  · obtain rfl : e = e' := by rw [hd] at hd'; exact congrArg Prod.snd hd'
    exact h
theorem palB_bound (xs : List Int) (h : ¬ palN xs) : ∀ x ∈ palB xs, 0 ≤ x ∧ x < 256 := by
  unfold palN at h
  intro x hx
  rcases List.mem_cons.1 hx with rfl | hx
  · omega
  · rcases List.mem_append.1 hx with hx | hx
    · obtain ⟨c, hc, hx⟩ := List.mem_flatMap.1 hx
      have := cols_bound xs c hc
      simp only [b3, List.mem_cons, List.not_mem_nil, or_false] at hx
      rcases hx with rfl | rfl | rfl <;> omega
    · exact bytesF_byte _ x hx

theorem tells12_call {Kp} : CallA Try.prog 23 [] [] (fun r M => r = .bo true ∧ M = []) Kp := by
  refine CallA.post_sub ?_
  have e1 : palB [66051, 66051, 263430] = [1, 1, 2, 3, 4, 5, 6, 4] := by decide +kernel
  have e2 : palD [1, 1, 2, 3, 4, 5, 6, 4] 3 = ([66051, 66051, 263430], 0) := by decide +kernel
  have e3 : ¬ palN [66051, 66051, 263430] := by unfold palN; decide +kernel
  refine step23 (fun _ => []) [] rfl ?_
  repeat ((conv => whnf); first | with_reducible refine O_step ?_ | with_reducible refine S_step ?_ | with_reducible refine D_step ?_ | with_reducible refine RO.exit ?_ | with_reducible refine RO.ret ?_ | ((with_reducible refine And.intro ?sc ?_); case sc => exact side) | ((with_reducible refine br_f ?sc ?_); case sc => exact sideB) | ((with_reducible refine br_t ?sc ?_); case sc => exact sideB))
  refine penc_ok (i := 0) (xs := [66051, 66051, 263430]) e3 rfl rfl (by decide) (by decide) (fun g' c' hc' => ?_)
  rw [e1] at hc' ⊢
  repeat ((conv => whnf); first | with_reducible refine O_step ?_ | with_reducible refine S_step ?_ | with_reducible refine D_step ?_ | with_reducible refine RO.exit ?_ | with_reducible refine RO.ret ?_ | ((with_reducible refine And.intro ?sc ?_); case sc => exact side) | ((with_reducible refine br_f ?sc ?_); case sc => exact sideB) | ((with_reducible refine br_t ?sc ?_); case sc => exact sideB))
  refine pdec_ok (i := 6) (b := [1, 1, 2, 3, 4, 5, 6, 4]) e2 rfl rfl (by decide) ⟨Nat.le_refl _, Nat.le_refl _⟩ (by decide) ?_
  repeat ((conv => whnf); first | with_reducible refine O_step ?_ | with_reducible refine S_step ?_ | with_reducible refine D_step ?_ | with_reducible refine RO.exit ?_ | with_reducible refine RO.ret ?_ | ((with_reducible refine And.intro ?sc ?_); case sc => exact side) | ((with_reducible refine br_f ?sc ?_); case sc => exact sideB) | ((with_reducible refine br_t ?sc ?_); case sc => exact sideB))
  intro ys hys
  obtain rfl : ys = [1, 1, 2, 3, 4, 5, 6, 4] := by rw [hys]; rfl
  repeat ((conv => whnf); first | with_reducible refine O_step ?_ | with_reducible refine S_step ?_ | with_reducible refine D_step ?_ | with_reducible refine RO.exit ?_ | with_reducible refine RO.ret ?_ | ((with_reducible refine And.intro ?sc ?_); case sc => exact side) | ((with_reducible refine br_f ?sc ?_); case sc => exact sideB) | ((with_reducible refine br_t ?sc ?_); case sc => exact sideB))
  refine br_t (str_const _ rfl) ?_
  repeat ((conv => whnf); first | with_reducible refine O_step ?_ | with_reducible refine S_step ?_ | with_reducible refine D_step ?_ | with_reducible refine RO.exit ?_ | with_reducible refine RO.ret ?_ | ((with_reducible refine And.intro ?sc ?_); case sc => exact side) | ((with_reducible refine br_f ?sc ?_); case sc => exact sideB) | ((with_reducible refine br_t ?sc ?_); case sc => exact sideB))
  exact ⟨[], subA_nil _, trivial, rfl, rfl, rfl⟩
theorem tells12_at {M : AH} {K Kp : AV → AH → Prop} (h : K (.bo true) M) : CallA Try.prog 23 [] M K Kp :=
  CallA.at0 tells12_call (fun _ => rfl) rfl (fun _ => rfl) h

theorem paletteEncodes_law (xs : List Int) (c : Nat) (hc : xs.length ≤ c ∧ c ≤ 9223372036854775807) (hx : ∀ x ∈ xs, IntKind.u32.min ≤ x ∧ x ≤ IntKind.u32.max) :
    CallA Try.prog 9 [.sl 0 0 0 xs.length c] [.one false 0 (.ints .u32 xs c)] (fun r _ => r = .bo true) (fun _ _ => False) := by
  have h0 : ∀ x ∈ xs, 0 ≤ x ∧ x < 4294967296 := fun x h => ⟨(hx x h).1, by have : x ≤ 4294967295 := (hx x h).2; omega⟩
  refine step9 (fun _ => []) [] rfl ?_
  repeat ((conv => whnf); first | with_reducible refine O_step ?_ | with_reducible refine S_step ?_ | with_reducible refine D_step ?_ | with_reducible refine RO.exit ?_ | with_reducible refine RO.ret ?_ | ((with_reducible refine And.intro ?sc ?_); case sc => exact side) | ((with_reducible refine br_f ?sc ?_); case sc => exact sideB) | ((with_reducible refine br_t ?sc ?_); case sc => exact sideB))
  refine And.intro (fun h => ?_) (fun h => ?_)
  · repeat ((conv => whnf); first | with_reducible refine O_step ?_ | with_reducible refine S_step ?_ | with_reducible refine D_step ?_ | with_reducible refine RO.exit ?_ | with_reducible refine RO.ret ?_ | ((with_reducible refine And.intro ?sc ?_); case sc => exact side) | ((with_reducible refine br_f ?sc ?_); case sc => exact sideB) | ((with_reducible refine br_t ?sc ?_); case sc => exact sideB))
    rfl
  · have hl : xs.length ≤ 2000 := by have := of_decide_eq_false h; omega
    repeat ((conv => whnf); first | with_reducible refine O_step ?_ | with_reducible refine S_step ?_ | with_reducible refine D_step ?_ | with_reducible refine RO.exit ?_ | with_reducible refine RO.ret ?_ | ((with_reducible refine And.intro ?sc ?_); case sc => exact side) | ((with_reducible refine br_f ?sc ?_); case sc => exact sideB) | ((with_reducible refine br_t ?sc ?_); case sc => exact sideB))
    intro ys hys
    obtain rfl : xs = ys := by rw [hys]; exact List.take_length.symm
    repeat ((conv => whnf); first | with_reducible refine O_step ?_ | with_reducible refine S_step ?_ | with_reducible refine D_step ?_ | with_reducible refine RO.exit ?_ | with_reducible refine RO.ret ?_ | ((with_reducible refine And.intro ?sc ?_); case sc => exact side) | ((with_reducible refine br_f ?sc ?_); case sc => exact sideB) | ((with_reducible refine br_t ?sc ?_); case sc => exact sideB))
    intro c1 hc1
    repeat ((conv => whnf); first | with_reducible refine O_step ?_ | with_reducible refine S_step ?_ | with_reducible refine D_step ?_ | with_reducible refine RO.exit ?_ | with_reducible refine RO.ret ?_ | ((with_reducible refine And.intro ?sc ?_); case sc => exact side) | ((with_reducible refine br_f ?sc ?_); case sc => exact sideB) | ((with_reducible refine br_t ?sc ?_); case sc => exact sideB))
    by_cases hp : palN xs
    · refine penc_no (i := 1) hp rfl rfl (by omega) h0 ?_
      repeat ((conv => whnf); first | with_reducible refine O_step ?_ | with_reducible refine S_step ?_ | with_reducible refine D_step ?_ | with_reducible refine RO.exit ?_ | with_reducible refine RO.ret ?_ | ((with_reducible refine And.intro ?sc ?_); case sc => exact side) | ((with_reducible refine br_f ?sc ?_); case sc => exact sideB) | ((with_reducible refine br_t ?sc ?_); case sc => exact sideB))
      refine rpenc_at (i := 0) rfl rfl (by omega) h0 (fun _ => ?_) (fun h => absurd hp h)
      repeat ((conv => whnf); first | with_reducible refine O_step ?_ | with_reducible refine S_step ?_ | with_reducible refine D_step ?_ | with_reducible refine RO.exit ?_ | with_reducible refine RO.ret ?_ | ((with_reducible refine And.intro ?sc ?_); case sc => exact side) | ((with_reducible refine br_f ?sc ?_); case sc => exact sideB) | ((with_reducible refine br_t ?sc ?_); case sc => exact sideB))
      refine rsame_at (i := 1) (j := 0) rfl rfl rfl rfl (by omega) (by omega) ?_
      repeat ((conv => whnf); first | with_reducible refine O_step ?_ | with_reducible refine S_step ?_ | with_reducible refine D_step ?_ | with_reducible refine RO.exit ?_ | with_reducible refine RO.ret ?_ | ((with_reducible refine And.intro ?sc ?_); case sc => exact side) | ((with_reducible refine br_f ?sc ?_); case sc => exact sideB) | ((with_reducible refine br_t ?sc ?_); case sc => exact sideB))
      refine tells12_at ?_
      repeat ((conv => whnf); first | with_reducible refine O_step ?_ | with_reducible refine S_step ?_ | with_reducible refine D_step ?_ | with_reducible refine RO.exit ?_ | with_reducible refine RO.ret ?_ | ((with_reducible refine And.intro ?sc ?_); case sc => exact side) | ((with_reducible refine br_f ?sc ?_); case sc => exact sideB) | ((with_reducible refine br_t ?sc ?_); case sc => exact sideB))
      rfl
    · refine penc_ok (i := 1) hp rfl rfl (by omega) h0 (fun g2 c2 hc2 => ?_)
      repeat ((conv => whnf); first | with_reducible refine O_step ?_ | with_reducible refine S_step ?_ | with_reducible refine D_step ?_ | with_reducible refine RO.exit ?_ | with_reducible refine RO.ret ?_ | ((with_reducible refine And.intro ?sc ?_); case sc => exact side) | ((with_reducible refine br_f ?sc ?_); case sc => exact sideB) | ((with_reducible refine br_t ?sc ?_); case sc => exact sideB))
      refine rpenc_at (i := 0) rfl rfl (by omega) h0 (fun h => absurd h hp) (fun _ g3 c3 hc3 => ?_)
      repeat ((conv => whnf); first | with_reducible refine O_step ?_ | with_reducible refine S_step ?_ | with_reducible refine D_step ?_ | with_reducible refine RO.exit ?_ | with_reducible refine RO.ret ?_ | ((with_reducible refine And.intro ?sc ?_); case sc => exact side) | ((with_reducible refine br_f ?sc ?_); case sc => exact sideB) | ((with_reducible refine br_t ?sc ?_); case sc => exact sideB))
      intro zs hzs
      obtain rfl : zs = palB xs := by rw [hzs]; exact List.take_length
      repeat ((conv => whnf); first | with_reducible refine O_step ?_ | with_reducible refine S_step ?_ | with_reducible refine D_step ?_ | with_reducible refine RO.exit ?_ | with_reducible refine RO.ret ?_ | ((with_reducible refine And.intro ?sc ?_); case sc => exact side) | ((with_reducible refine br_f ?sc ?_); case sc => exact sideB) | ((with_reducible refine br_t ?sc ?_); case sc => exact sideB))
      intro ws hws
      obtain rfl : ws = palB xs := by rw [hws]; exact List.take_length
      repeat ((conv => whnf); first | with_reducible refine O_step ?_ | with_reducible refine S_step ?_ | with_reducible refine D_step ?_ | with_reducible refine RO.exit ?_ | with_reducible refine RO.ret ?_ | ((with_reducible refine And.intro ?sc ?_); case sc => exact side) | ((with_reducible refine br_f ?sc ?_); case sc => exact sideB) | ((with_reducible refine br_t ?sc ?_); case sc => exact sideB))
      refine rsame_at (i := 1) (j := 0) rfl rfl rfl rfl (by omega) (by omega) ?_
      repeat ((conv => whnf); first | with_reducible refine O_step ?_ | with_reducible refine S_step ?_ | with_reducible refine D_step ?_ | with_reducible refine RO.exit ?_ | with_reducible refine RO.ret ?_ | ((with_reducible refine And.intro ?sc ?_); case sc => exact side) | ((with_reducible refine br_f ?sc ?_); case sc => exact sideB) | ((with_reducible refine br_t ?sc ?_); case sc => exact sideB))
      refine tells12_at ?_
      repeat ((conv => whnf); first | with_reducible refine O_step ?_ | with_reducible refine S_step ?_ | with_reducible refine D_step ?_ | with_reducible refine RO.exit ?_ | with_reducible refine RO.ret ?_ | ((with_reducible refine And.intro ?sc ?_); case sc => exact side) | ((with_reducible refine br_f ?sc ?_); case sc => exact sideB) | ((with_reducible refine br_t ?sc ?_); case sc => exact sideB))
      rfl

theorem palD_length {b l : List Int} {n : Int} (h : palD b n = (l, 0)) : 1 ≤ n ∧ n ≤ 65536 ∧ (l.length : Int) = n := by
  unfold palD at h
  split at h
  · cases h
  · split at h
    · cases h
    · split at h
      · cases h
      · unfold palV at h
        split at h
        · split at h
          · cases h; simp; omega
          · cases h
        · cases h
theorem paletteDecodes_law (b : List Int) (c : Nat) (hc : b.length ≤ c ∧ c ≤ 9223372036854775807) (hx : ∀ x ∈ b, IntKind.u8.min ≤ x ∧ x ≤ IntKind.u8.max) (n : Int) (hn : IntKind.i64.min ≤ n ∧ n ≤ IntKind.i64.max) :
    CallA Try.prog 10 [.sl 0 0 0 b.length c, .int .i64 n] [.one false 0 (.ints .u8 b c)] (fun r _ => r = .bo true) (fun _ _ => False) := by
  have h0 : ∀ x ∈ b, 0 ≤ x ∧ x < 256 := fun x h => ⟨(hx x h).1, by have : x ≤ 255 := (hx x h).2; omega⟩
  refine step10 (fun _ => [0, 1]) [] rfl ?_
  repeat ((conv => whnf); first | with_reducible refine O_step ?_ | with_reducible refine S_step ?_ | with_reducible refine D_step ?_ | with_reducible refine RO.exit ?_ | with_reducible refine RO.ret ?_ | ((with_reducible refine And.intro ?sc ?_); case sc => exact side) | ((with_reducible refine br_f ?sc ?_); case sc => exact sideB) | ((with_reducible refine br_t ?sc ?_); case sc => exact sideB))
  refine And.intro (fun h => ?_) (fun h => ?_)
  · repeat ((conv => whnf); first | with_reducible refine O_step ?_ | with_reducible refine S_step ?_ | with_reducible refine D_step ?_ | with_reducible refine RO.exit ?_ | with_reducible refine RO.ret ?_ | ((with_reducible refine And.intro ?sc ?_); case sc => exact side) | ((with_reducible refine br_f ?sc ?_); case sc => exact sideB) | ((with_reducible refine br_t ?sc ?_); case sc => exact sideB))
    rfl
  · have hl : b.length ≤ 500 := by have := of_decide_eq_false h; omega
    repeat ((conv => whnf); first | with_reducible refine O_step ?_ | with_reducible refine S_step ?_ | with_reducible refine D_step ?_ | with_reducible refine RO.exit ?_ | with_reducible refine RO.ret ?_ | ((with_reducible refine And.intro ?sc ?_); case sc => exact side) | ((with_reducible refine br_f ?sc ?_); case sc => exact sideB) | ((with_reducible refine br_t ?sc ?_); case sc => exact sideB))
    intro ys hys
    obtain rfl : b = ys := by rw [hys]; exact List.take_length.symm
    repeat ((conv => whnf); first | with_reducible refine O_step ?_ | with_reducible refine S_step ?_ | with_reducible refine D_step ?_ | with_reducible refine RO.exit ?_ | with_reducible refine RO.ret ?_ | ((with_reducible refine And.intro ?sc ?_); case sc => exact side) | ((with_reducible refine br_f ?sc ?_); case sc => exact sideB) | ((with_reducible refine br_t ?sc ?_); case sc => exact sideB))
    intro c1 hc1
    repeat ((conv => whnf); first | with_reducible refine O_step ?_ | with_reducible refine S_step ?_ | with_reducible refine D_step ?_ | with_reducible refine RO.exit ?_ | with_reducible refine RO.ret ?_ | ((with_reducible refine And.intro ?sc ?_); case sc => exact side) | ((with_reducible refine br_f ?sc ?_); case sc => exact sideB) | ((with_reducible refine br_t ?sc ?_); case sc => exact sideB))
    refine pdec_at (i := 1) (b := b) rfl rfl (by omega) ⟨by omega, Nat.le_refl _⟩ h0 (fun l hd => ?_) (fun e he hd => ?_)
    · have hll := palD_length hd
      repeat ((conv => whnf); first | with_reducible refine O_step ?_ | with_reducible refine S_step ?_ | with_reducible refine D_step ?_ | with_reducible refine RO.exit ?_ | with_reducible refine RO.ret ?_ | ((with_reducible refine And.intro ?sc ?_); case sc => exact side) | ((with_reducible refine br_f ?sc ?_); case sc => exact sideB) | ((with_reducible refine br_t ?sc ?_); case sc => exact sideB))
      refine rpdec_at (i := 0) (b := b) rfl rfl (by omega) ⟨by omega, Nat.le_refl _⟩ h0 (fun l2 g2 c2 hd2 hc2 => ?_) (fun e he hd2 => ?_)
      · obtain rfl : l = l2 := by rw [hd] at hd2; exact congrArg Prod.fst hd2
        repeat ((conv => whnf); first | with_reducible refine O_step ?_ | with_reducible refine S_step ?_ | with_reducible refine D_step ?_ | with_reducible refine RO.exit ?_ | with_reducible refine RO.ret ?_ | ((with_reducible refine And.intro ?sc ?_); case sc => exact side) | ((with_reducible refine br_f ?sc ?_); case sc => exact sideB) | ((with_reducible refine br_t ?sc ?_); case sc => exact sideB))
        refine rsame_at (i := 5) (j := 8) rfl rfl rfl rfl (by omega) (by omega) ?_
        repeat ((conv => whnf); first | with_reducible refine O_step ?_ | with_reducible refine S_step ?_ | with_reducible refine D_step ?_ | with_reducible refine RO.exit ?_ | with_reducible refine RO.ret ?_ | ((with_reducible refine And.intro ?sc ?_); case sc => exact side) | ((with_reducible refine br_f ?sc ?_); case sc => exact sideB) | ((with_reducible refine br_t ?sc ?_); case sc => exact sideB))
        intro z1 hz1
        obtain rfl : z1 = b := by rw [hz1]; exact List.take_length
        repeat ((conv => whnf); first | with_reducible refine O_step ?_ | with_reducible refine S_step ?_ | with_reducible refine D_step ?_ | with_reducible refine RO.exit ?_ | with_reducible refine RO.ret ?_ | ((with_reducible refine And.intro ?sc ?_); case sc => exact side) | ((with_reducible refine br_f ?sc ?_); case sc => exact sideB) | ((with_reducible refine br_t ?sc ?_); case sc => exact sideB))
        intro z2 hz2
        obtain rfl : z2 = z1 := by rw [hz2]; exact List.take_length
        repeat ((conv => whnf); first | with_reducible refine O_step ?_ | with_reducible refine S_step ?_ | with_reducible refine D_step ?_ | with_reducible refine RO.exit ?_ | with_reducible refine RO.ret ?_ | ((with_reducible refine And.intro ?sc ?_); case sc => exact side) | ((with_reducible refine br_f ?sc ?_); case sc => exact sideB) | ((with_reducible refine br_t ?sc ?_); case sc => exact sideB))
        refine tells12_at ?_
        repeat ((conv => whnf); first | with_reducible refine O_step ?_ | with_reducible refine S_step ?_ | with_reducible refine D_step ?_ | with_reducible refine RO.exit ?_ | with_reducible refine RO.ret ?_ | ((with_reducible refine And.intro ?sc ?_); case sc => exact side) | ((with_reducible refine br_f ?sc ?_); case sc => exact sideB) | ((with_reducible refine br_t ?sc ?_); case sc => exact sideB))
        rfl
      · exfalso
        rw [hd] at hd2
        exact he (congrArg Prod.snd hd2).symm
    · repeat ((conv => whnf); first | with_reducible refine O_step ?_ | with_reducible refine S_step ?_ | with_reducible refine D_step ?_ | with_reducible refine RO.exit ?_ | with_reducible refine RO.ret ?_ | ((with_reducible refine And.intro ?sc ?_); case sc => exact side) | ((with_reducible refine br_f ?sc ?_); case sc => exact sideB) | ((with_reducible refine br_t ?sc ?_); case sc => exact sideB))
      refine rpdec_at (i := 0) (b := b) rfl rfl (by omega) ⟨by omega, Nat.le_refl _⟩ h0 (fun l2 g2 c2 hd2 hc2 => ?_) (fun e2 he2 hd2 => ?_)
      · exfalso
        rw [hd] at hd2
        exact he (congrArg Prod.snd hd2)
      · obtain rfl : e = e2 := by rw [hd] at hd2; exact congrArg Prod.snd hd2
        repeat ((conv => whnf); first | with_reducible refine O_step ?_ | with_reducible refine S_step ?_ | with_reducible refine D_step ?_ | with_reducible refine RO.exit ?_ | with_reducible refine RO.ret ?_ | ((with_reducible refine And.intro ?sc ?_); case sc => exact side) | ((with_reducible refine br_f ?sc ?_); case sc => exact sideB) | ((with_reducible refine br_t ?sc ?_); case sc => exact sideB))
        refine rsame_nil ?_
        repeat ((conv => whnf); first | with_reducible refine O_step ?_ | with_reducible refine S_step ?_ | with_reducible refine D_step ?_ | with_reducible refine RO.exit ?_ | with_reducible refine RO.ret ?_ | ((with_reducible refine And.intro ?sc ?_); case sc => exact side) | ((with_reducible refine br_f ?sc ?_); case sc => exact sideB) | ((with_reducible refine br_t ?sc ?_); case sc => exact sideB))
        intro z1 hz1
        obtain rfl : z1 = b := by rw [hz1]; exact List.take_length
        repeat ((conv => whnf); first | with_reducible refine O_step ?_ | with_reducible refine S_step ?_ | with_reducible refine D_step ?_ | with_reducible refine RO.exit ?_ | with_reducible refine RO.ret ?_ | ((with_reducible refine And.intro ?sc ?_); case sc => exact side) | ((with_reducible refine br_f ?sc ?_); case sc => exact sideB) | ((with_reducible refine br_t ?sc ?_); case sc => exact sideB))
        intro z2 hz2
        obtain rfl : z2 = z1 := by rw [hz2]; exact List.take_length
        repeat ((conv => whnf); first | with_reducible refine O_step ?_ | with_reducible refine S_step ?_ | with_reducible refine D_step ?_ | with_reducible refine RO.exit ?_ | with_reducible refine RO.ret ?_ | ((with_reducible refine And.intro ?sc ?_); case sc => exact side) | ((with_reducible refine br_f ?sc ?_); case sc => exact sideB) | ((with_reducible refine br_t ?sc ?_); case sc => exact sideB))
        refine tells12_at ?_
        repeat ((conv => whnf); first | with_reducible refine O_step ?_ | with_reducible refine S_step ?_ | with_reducible refine D_step ?_ | with_reducible refine RO.exit ?_ | with_reducible refine RO.ret ?_ | ((with_reducible refine And.intro ?sc ?_); case sc => exact side) | ((with_reducible refine br_f ?sc ?_); case sc => exact sideB) | ((with_reducible refine br_t ?sc ?_); case sc => exact sideB))
        rfl
end Go.Proofs.Ytaioclggifdnhaa



set_option linter.unusedVariables false

set_option linter.unusedSimpArgs false

open Go.RowKit

namespace Go.Proofs.Ytaioclggifdnhaa

set_option maxRecDepth 10000

theorem flat3_get (l : List Int) (r : List Int) : ∀ (i : Nat), i < l.length → (l.flatMap b3 ++ r).getD (3 * i) 0 = l.getD i 0 / 65536 ∧ (l.flatMap b3 ++ r).getD (3 * i + 1) 0 = l.getD i 0 / 256 % 256 ∧ (l.flatMap b3 ++ r).getD (3 * i + 2) 0 = l.getD i 0 % 256 := by
  induction l with
  | nil => intro i h; simp at h
  | cons x l ih =>
    intro i h
    cases i with
    | zero => exact ⟨rfl, rfl, rfl⟩
    | succ i =>
      have := ih i (by simpa using h)
      rw [List.flatMap_cons, List.append_assoc]
      show (x / 65536 :: x / 256 % 256 :: x % 256 :: (l.flatMap b3 ++ r)).getD _ 0 = _ ∧ (x / 65536 :: x / 256 % 256 :: x % 256 :: (l.flatMap b3 ++ r)).getD _ 0 = _ ∧ (x / 65536 :: x / 256 % 256 :: x % 256 :: (l.flatMap b3 ++ r)).getD _ 0 = _
      rw [show 3 * (i + 1) = 3 * i + 1 + 1 + 1 by omega]
      simpa only [List.getD_cons_succ] using this
theorem palB_colB {xs : List Int} {i : Nat} (hi : i < (cols xs).length) : colB (palB xs) i = (cols xs).getD i 0 := by
  have h := flat3_get (cols xs) (bytesF (rowF xs)) i hi
  have hb := bget (cols_bound xs) i hi
  unfold colB palB
  rw [show 1 + 3 * i = 3 * i + 1 by omega, show 2 + 3 * i = (3 * i + 1) + 1 by omega, show 3 + 3 * i = (3 * i + 2) + 1 by omega]
  simp only [List.getD_cons_succ]
  rw [h.1, h.2.1, h.2.2]
  omega
theorem palB_drop (xs : List Int) : (palB xs).drop (1 + 3 * (cols xs).length) = bytesF (rowF xs) := by
  unfold palB
  rw [Nat.add_comm, List.drop_succ_cons, ← flat3_length, List.drop_left]
theorem palB_length (xs : List Int) : (palB xs).length = 1 + 3 * (cols xs).length + (xs.length * sizeF (cols xs).length + 7) / 8 := by
  unfold palB
  rw [List.length_cons, List.length_append, flat3_length, bytesF_length, rowF_length]
  omega
theorem flatBits_drop (f : Int → Int) (s : Nat) : ∀ (l : List Int) (j : Nat), (l.flatMap fun c => bitsOf (f c) s).drop (j * s) = (l.drop j).flatMap fun c => bitsOf (f c) s
  | l, 0 => by simp
  | [], j + 1 => by simp
  | x :: l, j + 1 => by
    rw [List.flatMap_cons, List.drop_succ_cons, ← flatBits_drop f s l j, Nat.add_mul, Nat.one_mul, Nat.add_comm, ← List.drop_drop]
    congr 1
    have := bitsOf_length s (f x)
    conv => lhs; arg 1; rw [← this]
    exact List.drop_left
theorem sizeF_fits {k i : Nat} (hk : k ≤ 16) (hi : i < k) : (i : Int) < 2 ^ sizeF k := by
  unfold sizeF
  split
  · simp; omega
  · split
    · simp; omega
    · split
      · simp; omega
      · simp; omega
theorem palB_val {xs : List Int} (hp : ¬ palN xs) {j : Nat} (hj : j < xs.length) : valB (palB xs) (cols xs).length (sizeF (cols xs).length) j = ((cols xs).idxOf ((cutL xs).getD j 0) : Nat) := by
  unfold palN at hp
  have hL := cutL_length xs
  have hrl := rowF_length xs
  have hm := cutL_cols hj
  have hix : (cols xs).idxOf ((cutL xs).getD j 0) < (cols xs).length := List.idxOf_lt_length_iff.2 hm
  obtain ⟨z, _, hz, _⟩ := unpack_bytesF (rowF xs)
  have hjs : j * sizeF (cols xs).length + sizeF (cols xs).length ≤ (rowF xs).length := by
    rw [hrl, ← Nat.succ_mul]; exact Nat.mul_le_mul_right _ hj
  unfold valB
  rw [palB_drop, hz, List.drop_append_of_le_length (by omega), List.take_append_of_le_length (by rw [List.length_drop]; omega)]
  show num ((((cutL xs).flatMap fun c => bitsOf (((cols xs).idxOf c : Nat) : Int) (sizeF (cols xs).length)).drop (j * sizeF (cols xs).length)).take (sizeF (cols xs).length)) = _
  rw [flatBits_drop (fun c => (((cols xs).idxOf c : Nat) : Int)), List.drop_eq_getElem_cons (by omega), List.flatMap_cons]
  have hbl := bitsOf_length (sizeF (cols xs).length) (((cols xs).idxOf ((cutL xs)[j]'(by omega)) : Nat) : Int)
  conv => lhs; arg 1; arg 1; rw [← hbl]
  rw [List.take_left, ← getD_get (by omega)]
  exact num_bitsOf _ _ (by omega) (sizeF_fits (by omega) hix)
theorem num_false (z : Nat) : num (List.replicate z false) = 0 := by
  rw [num_zero]; intro q hq; simp only [List.getD_eq_getElem?_getD, List.getElem?_replicate]; split <;> rfl
theorem palD_palB {xs : List Int} (hp : ¬ palN xs) (hx : xs.length ≤ 65536) : palD (palB xs) (xs.length : Int) = (cutL xs, 0) := by
  have hp' := hp
  unfold palN at hp'
  have hL := cutL_length xs
  have hcl := cols_length xs
  have h0 : (palB xs).getD 0 0 = ((cols xs).length : Int) - 1 := rfl
  have hlen := palB_length xs
  obtain ⟨z, _, hz, _⟩ := unpack_bytesF (rowF xs)
  unfold palD
  rw [if_neg (by omega), if_neg (by rw [h0]; omega), h0, show (((cols xs).length : Int) - 1).toNat + 1 = (cols xs).length by omega, Int.toNat_natCast, if_neg (by omega)]
  rw [palV_ok (fun i hi => by
    rw [palB_val hp hi]
    have hix : (cols xs).idxOf ((cutL xs).getD i 0) < (cols xs).length := List.idxOf_lt_length_iff.2 (cutL_cols hi)
    omega)]
  rw [palB_drop, hz, ← rowF_length, List.drop_left, num_false, if_pos rfl]
  congr 1
  apply List.ext_getElem
  · simp [hL]
  · intro j h1 h2
    simp only [List.length_map, List.length_range] at h1
    simp only [List.getElem_map, List.getElem_range]
    rw [palB_val hp h1, Int.toNat_natCast]
    have hm := cutL_cols h1
    have hix : (cols xs).idxOf ((cutL xs).getD j 0) < (cols xs).length := List.idxOf_lt_length_iff.2 hm
    rw [palB_colB hix, getD_get hix, List.getElem_idxOf hix, getD_get (by omega)]

/-! The other way round. -/
theorem nodup_le : ∀ {a b : List Int}, a.Nodup → (∀ x ∈ a, x ∈ b) → a.length ≤ b.length
  | [], _, _, _ => Nat.zero_le _
  | x :: a, b, h, hs => by
    have hx := hs x (by simp)
    obtain ⟨h1, h2⟩ := List.nodup_cons.1 h
    have := nodup_le (a := a) (b := b.erase x) h2 (fun y hy => by
      refine (List.mem_erase_of_ne ?_).2 (hs y (by simp [hy]))
      rintro rfl; exact h1 hy)
    rw [List.length_erase_of_mem hx] at this
    have := List.length_pos_of_mem hx
    simp; omega
theorem cols_reverse (xs : List Int) : (cols xs.reverse).length = (cols xs).length := by
  have hm : ∀ (ys : List Int) (x : Int), x ∈ cols ys ↔ x ∈ cutL ys := fun ys x => by unfold cols; rw [colsF_mem]; simp
  have hr : ∀ x, x ∈ cutL xs.reverse ↔ x ∈ cutL xs := fun x => by unfold cutL; simp
  have hn : ∀ ys : List Int, (cols ys).Nodup := fun ys => colsF_nodup _ _ (by simp)
  apply Nat.le_antisymm
  · exact nodup_le (hn _) (fun x hx => by rw [hm] at hx ⊢; exact (hr x).1 hx)
  · exact nodup_le (hn _) (fun x hx => by rw [hm] at hx ⊢; exact (hr x).2 hx)
theorem colsF_id : ∀ (l out : List Int), (out ++ l).Nodup → colsF l out = out ++ l
  | [], _, _ => by simp [colsF]
  | x :: l, out, h => by
    have hx : x ∉ out := fun hm => (List.nodup_append.1 h).2.2 x hm x (by simp) rfl
    simp only [colsF, if_neg hx]
    rw [colsF_id l (out ++ [x]) (by simpa using h)]
    simp
/-- Greys, one more each time. -/
def greys (k : Nat) : List Int := (List.range k).map fun (i : Nat) => (i : Int) * 65793
theorem greys_succ (k : Nat) : greys (k + 1) = greys k ++ [(k : Int) * 65793] := by unfold greys; rw [List.range_succ]; simp
theorem greys_bound {k : Nat} (hk : k ≤ 20) : ∀ x ∈ greys k, 0 ≤ x ∧ x < 16777216 := fun x hx => by
  obtain ⟨i, hi, rfl⟩ := List.mem_map.1 hx
  have := List.mem_range.1 hi
  omega
theorem greys_cols {k : Nat} (hk : k ≤ 20) : cutL (greys k) = greys k ∧ cols (greys k) = greys k := by
  have h1 : cutL (greys k) = greys k := cutL_id (greys_bound hk)
  refine ⟨h1, ?_⟩
  unfold cols
  rw [h1, colsF_id]
  · simp
  · simp only [List.nil_append]
    unfold greys
    rw [List.nodup_iff_pairwise_ne, List.pairwise_map]
    exact (List.nodup_iff_pairwise_ne.1 List.nodup_range).imp fun h e => h (by omega)
end Go.Proofs.Ytaioclggifdnhaa
