/- Layer 6, the reference: Least. -/
import Derived.Test.YtdnmbmnfglbfoaaH24

set_option linter.unusedVariables false

set_option linter.unusedSimpArgs false

open Go.RowKit

namespace Go.Proofs.Ytdnmbmnfglbfoaa

set_option maxRecDepth 10000

def psum : List Int → List Int
  | a :: b :: r => (a + b) :: psum r
  | _ => []
theorem psum_len : ∀ l : List Int, (psum l).length = l.length / 2
  | [] => rfl
  | [_] => by simp [psum]
  | a :: b :: r => by simp [psum, psum_len r]; omega
theorem psum_get : ∀ (l : List Int) (j : Nat), 2 * j + 1 < l.length → (psum l).getD j 0 = l.getD (2 * j) 0 + l.getD (2 * j + 1) 0
  | [], j, h => by simp at h
  | [_], j, h => by simp at h
  | a :: b :: r, 0, _ => rfl
  | a :: b :: r, j + 1, h => by
    have ih := psum_get r j (by simp only [List.length_cons] at h; omega)
    rw [show 2 * (j + 1) = 2 * j + 1 + 1 by omega]
    simpa [psum] using ih
section

variable {fr : List Int}

abbrev ws (fr : List Int) (k : Nat) : List Int := (srt fr k).map fun x => x.w

theorem pairUp_ws : ∀ l : List It, (pairUp l).map (fun q => q.1.w + q.2.w) = psum (l.map fun x => x.w)
  | [] => rfl
  | [_] => rfl
  | a :: b :: r => by simp only [pairUp, List.map_cons, psum, pairUp_ws r]
theorem np_ws (k : Nat) : (npF fr k).map (fun x => x.w) = psum (ws fr k) := by
  rw [← pairUp_ws]
  apply List.ext_getElem
  · rw [List.length_map, np_len, List.length_map]; rfl
  · intro j h1 h2
    rw [List.getElem_map, np_get, List.getElem_map]; rfl
def posF (fr : List Int) : List Int := fr.filter fun x => decide (0 < x)
theorem map_getD (fr : List Int) : (List.range fr.length).map (fun i => fr.getD i 0) = fr := by
  apply List.ext_getElem
  · simp
  · intro j h1 h2
    simp [List.getD_eq_getElem?_getD, h2]
theorem nl_ws (k : Nat) : (nlF fr k).map (fun x => x.w) = posF fr := by
  have h1 : (nlF fr k).map (fun x => x.w) = (List.range (usedF fr).length).map (fun i => fr.getD ((usedF fr).getD i 0) 0) := by
    unfold nlF; rw [List.map_map]; rfl
  have h2 : (List.range (usedF fr).length).map (fun i => fr.getD ((usedF fr).getD i 0) 0) = (usedF fr).map fun s => fr.getD s 0 := by
    apply List.ext_getElem
    · simp
    · intro j h1 h2
      have hj : j < (usedF fr).length := by simpa using h2
      simp only [List.getElem_map, List.getElem_range]
      congr 1
      rw [List.getD_eq_getElem?_getD, List.getElem?_eq_getElem hj]; rfl
  rw [h1, h2]
  unfold posF usedF
  conv => rhs; rw [← map_getD fr]
  rw [List.filter_map]
  congr 1
theorem ws_perm (k : Nat) : (ws fr (k + 1)).Perm (posF fr ++ psum (ws fr k)) := by
  have h := (srt_perm (fr := fr) k).map fun x => x.w
  rw [List.map_append, np_ws, nl_ws] at h
  exact h.trans List.perm_append_comm
theorem ws_sorted (k : Nat) : (ws fr k).Pairwise (· ≤ ·) := by
  refine (srt_sorted k).map _ fun a b h => ?_
  unfold leI at h; omega
theorem ws_eq {k : Nat} {o : List Int} (h1 : o.Perm (posF fr ++ psum (ws fr k))) (h2 : o.Pairwise (· ≤ ·)) : o = ws fr (k + 1) :=
  List.Perm.eq_of_pairwise (le := (· ≤ ·)) (fun a b _ _ x y => Int.le_antisymm x y) h2 (ws_sorted (k + 1)) (h1.trans (ws_perm k).symm)
theorem ws_bnd (hb : fr.any badI = false) (hl : fr.length ≤ 320) {k : Nat} (hk : k ≤ 15) {x : Int} (hx : x ∈ ws fr k) : 0 ≤ x ∧ x ≤ 36028797018963968 := by
  obtain ⟨y, hy, rfl⟩ := List.mem_map.1 hx
  obtain ⟨z, hz, e, _⟩ := popsF_start_mem (L := (rowsF fr k).all) hy
  have ok := (rowsF_ok hb hl k hk).items z hz
  have hp : (2 : Int) ^ k ≤ 2 ^ 15 := pow2_le hk
  have hp2 : (2 : Int) ^ 15 = 32768 := by decide
  obtain ⟨_, a, b⟩ := ok
  show 0 ≤ y.w ∧ y.w ≤ _
  omega
theorem ws_len (k : Nat) : (ws fr k).length = (rowsF fr k).all.length := by rw [List.length_map, srt_len]
theorem posF_upto (i : Nat) : i ≤ fr.length → ((fr.take i).filter fun x => decide (0 < x)).length = (upto fr i).length := by
  induction i with
  | zero => intro _; rfl
  | succ i ih =>
    intro h
    have hil : i < fr.length := by omega
    have := ih (by omega)
    rw [List.take_succ_eq_append_getElem hil, List.filter_append, List.length_append, this, upto_succ]
    have hg : fr.getD i 0 = fr[i] := by simp [List.getD_eq_getElem?_getD, hil]
    rw [hg]
    by_cases e : 0 < fr[i]
    · rw [if_pos e, List.filter_cons_of_pos (by simpa using e), List.length_append]; rfl
    · rw [if_neg e, List.filter_cons_of_neg (by simpa using e)]; rfl
theorem posF_len : (posF fr).length = nF fr := by
  have := posF_upto (fr := fr) fr.length (Nat.le_refl _)
  rw [List.take_length] at this
  exact this
end

section

variable {M : AH} {K Kp : AV → AH → Prop}

theorem rise_at {i g n c0 co : Nat} {o : Bool} {l : List Int} (hi : M[i]? = some (.one o g (.ints .i64 l co))) (hn : n = l.length) (hl : l.length ≤ 100000)
    (h : ∀ o g' c', o.length ≤ c' → o.Perm l → o.Pairwise (· ≤ ·) → K (.sl M.length g' 0 o.length c') (M ++ [.one true g' (.ints .i64 o c')])) : CallA Try.prog 33 [.sl i g 0 n c0] M K Kp := by
  subst hn
  refine CallA.lift [.win i g 0] (rise_call (l := l) (c0 := c0) (c := co) (Kp := fun _ _ => False) hl) rfl rfl ⟨⟨_, _, _, rfl, slot_one hi, WinC.same rfl (fun h => h)⟩, trivial⟩ ⟨trivial, trivial⟩ ?_ (fun _ _ h => h.elim)
  rintro r M' ⟨o, g', c', rfl, rfl, h1, h2, h3⟩
  exact ⟨⟨rfl, rfl⟩, h o g' c' h1 h2 h3⟩
end

section

variable {fr : List Int} {c c0 : Nat} {K : AV → AH → Prop} {Kp : AV → AH → Prop}

theorem least_call {N : Nat} (hb : fr.any badI = false) (hl : fr.length ≤ 60) (h1 : 1 ≤ N) (h15 : N ≤ 15) (hn : 2 ≤ nF fr) (hN : nF fr ≤ 2 ^ N)
    (hK : K (.int .i64 (wT fr N (2 * nF fr - 2))) [.one false 0 (.ints .i64 fr c)]) :
    CallA Try.prog 14 [.sl 0 0 0 fr.length c0, .int .i64 (N : Int)] [.one false 0 (.ints .i64 fr c)] K Kp := by
  refine CallA.post_sub ?_
  refine step14 (fun _ => [0, 1]) [] rfl ?_
  repeat ((conv => whnf); first | with_reducible refine O_step ?_ | with_reducible refine S_step ?_ | with_reducible refine D_step ?_ | with_reducible refine RO.exit ?_ | with_reducible refine RO.ret ?_ | ((with_reducible refine And.intro ?sc ?_); case sc => exact side) | ((with_reducible refine br_f ?sc ?_); case sc => exact sideB) | ((with_reducible refine br_t ?sc ?_); case sc => exact sideB))
  refine WO.gov (σ := Nat × List Int × Nat × Nat × Nat) (fun s => s.1 ≤ N ∧ s.2.1 = ws fr s.1 ∧ s.2.1.length ≤ s.2.2.2.1 ∧ s.2.2.2.2 = if s.1 = 0 then 0 else nF fr) (fun s => N - s.1)
    (fun s => [(0, .sl 0 0 0 fr.length c0), (1, .int .i64 (N : Int)), (5, .sl 1 s.2.2.1 0 s.2.1.length s.2.2.2.1), (6, .int .i64 (s.2.2.2.2 : Int)), (7, .int .i64 (s.1 : Int))])
    (fun s => [.one false 0 (.ints .i64 fr c), .one true s.2.2.1 (.ints .i64 s.2.1 s.2.2.2.1)]) (0, [], 0, 0, 0) tb_ok mixed (by kernel_rfl)
    [(0, .sl 0 0 0 fr.length c0), (1, .int .i64 (N : Int)), (5, .ns), (6, .int .i64 0), (7, .int .i64 0)] _ ⟨Nat.zero_le _, rfl, Nat.zero_le _, rfl⟩ (And.intro rfl (And.intro rfl (And.intro rfl (And.intro rfl (And.intro rfl (trivial)))))) rfl
    (Vw.nils (x := .ints .i64 [] 0) ⟨rfl, rfl⟩ (And.intro (.inl rfl) (And.intro (.inl rfl) (And.intro (.inr ⟨rfl, rfl⟩) (And.intro (.inl rfl) (And.intro (.inl rfl) trivial)))))) (And.intro rfl (And.intro rfl (trivial))) (fun _ => rfl) (fun _ => rfl) (fun _ => ⟨trivial, trivial, trivial⟩) ?_
  rintro ⟨r, a, g, c1, n⟩ ⟨r1, r2, r3, r4⟩ d
  simp only at r1 r2 r3 r4
  have hal : a.length ≤ 2 * nF fr := by rw [r2, ws_len]; exact rowsF_len_le fr r
  have hnf : nF fr ≤ fr.length := usedF_len fr
  have hab : ∀ j, j < a.length → 0 ≤ a.getD j 0 ∧ a.getD j 0 ≤ 36028797018963968 := fun j hj => ws_bnd hb (by omega) (show r ≤ 15 by omega) (by rw [← r2]; exact getD_memI hj)
  repeat ((conv => whnf); first | with_reducible refine O_step ?_ | with_reducible refine S_step ?_ | with_reducible refine D_step ?_ | with_reducible refine RO.exit ?_ | with_reducible refine RO.ret ?_ | ((with_reducible refine And.intro ?sc ?_); case sc => exact side) | ((with_reducible refine br_f ?sc ?_); case sc => exact sideB) | ((with_reducible refine br_t ?sc ?_); case sc => exact sideB))
  refine And.intro (fun hr => ?_) (fun hr => ?_)
  · have hrl : r < N := by simp only [decide_eq_true_eq] at hr; omega
    repeat ((conv => whnf); first | with_reducible refine O_step ?_ | with_reducible refine S_step ?_ | with_reducible refine D_step ?_ | with_reducible refine RO.exit ?_ | with_reducible refine RO.ret ?_ | ((with_reducible refine And.intro ?sc ?_); case sc => exact side) | ((with_reducible refine br_f ?sc ?_); case sc => exact sideB) | ((with_reducible refine br_t ?sc ?_); case sc => exact sideB))
    refine WO.gov (σ := Nat × List Int × Nat × Nat) (fun s => s.1 ≤ fr.length ∧ s.2.1 = (fr.take s.1).filter (fun x => decide (0 < x)) ∧ s.2.1.length ≤ s.2.2.2) (fun s => fr.length - s.1)
      (fun s => [(0, .sl 0 0 0 fr.length c0), (1, .int .i64 (N : Int)), (5, .sl 1 g 0 a.length c1), (6, .int .i64 ((s.2.1.length : Nat) : Int)), (7, .int .i64 (r : Int)), (8, .sl 2 s.2.2.1 0 s.2.1.length s.2.2.2), (9, .int .i64 (s.1 : Int))])
      (fun s => [.one false 0 (.ints .i64 fr c), .one true g (.ints .i64 a c1), .one true s.2.2.1 (.ints .i64 s.2.1 s.2.2.2)]) (0, [], 0, 0) tb_ok mixed (by kernel_rfl)
      [(0, .sl 0 0 0 fr.length c0), (1, .int .i64 (N : Int)), (5, .sl 1 g 0 a.length c1), (6, .int .i64 0), (7, .int .i64 (r : Int)), (8, .ns), (9, .int .i64 0)] _ ⟨Nat.zero_le _, rfl, Nat.zero_le _⟩ (And.intro rfl (And.intro rfl (And.intro rfl (And.intro rfl (And.intro rfl (And.intro rfl (And.intro rfl (trivial)))))))) rfl
      (Vw.nils (x := .ints .i64 [] 0) ⟨rfl, rfl⟩ (And.intro (.inl rfl) (And.intro (.inl rfl) (And.intro (.inl rfl) (And.intro (.inl rfl) (And.intro (.inl rfl) (And.intro (.inr ⟨rfl, rfl⟩) (And.intro (.inl rfl) trivial)))))))) (And.intro rfl (And.intro rfl (And.intro rfl (trivial)))) (fun _ => rfl) (fun _ => rfl) (fun _ => ⟨trivial, trivial, trivial, trivial⟩) ?_
    rintro ⟨i, nx, g2, c2⟩ ⟨i1, i2, i3⟩ d1
    simp only at i1 i2 i3
    have hnx : nx.length ≤ i := by rw [i2]; refine Nat.le_trans (List.length_filter_le _ _) ?_; rw [List.length_take]; omega
    repeat ((conv => whnf); first | with_reducible refine O_step ?_ | with_reducible refine S_step ?_ | with_reducible refine D_step ?_ | with_reducible refine RO.exit ?_ | with_reducible refine RO.ret ?_ | ((with_reducible refine And.intro ?sc ?_); case sc => exact side) | ((with_reducible refine br_f ?sc ?_); case sc => exact sideB) | ((with_reducible refine br_t ?sc ?_); case sc => exact sideB))
    refine And.intro (fun hi => ?_) (fun hi => ?_)
    · have hil : i < fr.length := by simp only [decide_eq_true_eq] at hi; omega
      have hgd : fr.getD ((i : Int).toNat + 0) 0 = fr[i] := by simp [List.getD_eq_getElem?_getD, hil]
      have htk : fr.take (i + 1) = fr.take i ++ [fr[i]] := List.take_succ_eq_append_getElem hil
      repeat ((conv => whnf); first | with_reducible refine O_step ?_ | with_reducible refine S_step ?_ | with_reducible refine D_step ?_ | with_reducible refine RO.exit ?_ | with_reducible refine RO.ret ?_ | ((with_reducible refine And.intro ?sc ?_); case sc => exact side) | ((with_reducible refine br_f ?sc ?_); case sc => exact sideB) | ((with_reducible refine br_t ?sc ?_); case sc => exact sideB))
      refine And.intro (fun hp => ?_) (fun hp => ?_)
      · have hp' : 0 < fr[i] := by rw [← hgd]; simpa using hp
        have hnx1 : (fr.take (i + 1)).filter (fun x => decide (0 < x)) = nx ++ [fr[i]] := by rw [htk, List.filter_append, ← i2, List.filter_cons_of_pos (by simpa using hp')]; rfl
        repeat ((conv => whnf); first | with_reducible refine O_step ?_ | with_reducible refine S_step ?_ | with_reducible refine D_step ?_ | with_reducible refine RO.exit ?_ | with_reducible refine RO.ret ?_ | ((with_reducible refine And.intro ?sc ?_); case sc => exact side) | ((with_reducible refine br_f ?sc ?_); case sc => exact sideB) | ((with_reducible refine br_t ?sc ?_); case sc => exact sideB))
        intro zs hzs
        obtain rfl : zs = [fr[i]] := by rw [hzs, ← hgd]; rfl
        repeat ((conv => whnf); first | with_reducible refine O_step ?_ | with_reducible refine S_step ?_ | with_reducible refine D_step ?_ | with_reducible refine RO.exit ?_ | with_reducible refine RO.ret ?_ | ((with_reducible refine And.intro ?sc ?_); case sc => exact side) | ((with_reducible refine br_f ?sc ?_); case sc => exact sideB) | ((with_reducible refine br_t ?sc ?_); case sc => exact sideB))
        intro c3 hc3
        repeat ((conv => whnf); first | with_reducible refine O_step ?_ | with_reducible refine S_step ?_ | with_reducible refine D_step ?_ | with_reducible refine RO.exit ?_ | with_reducible refine RO.ret ?_ | ((with_reducible refine And.intro ?sc ?_); case sc => exact side) | ((with_reducible refine br_f ?sc ?_); case sc => exact sideB) | ((with_reducible refine br_t ?sc ?_); case sc => exact sideB))
        refine RO.same (i + 1, nx ++ [fr[i]], g2 + 1, c3) ⟨by show i + 1 ≤ _; omega, by show nx ++ [fr[i]] = _; rw [← hnx1], by show (nx ++ [fr[i]]).length ≤ c3; rw [List.length_append]; exact hc3⟩ (show fr.length - (i + 1) < fr.length - i by omega) (And.intro rfl (And.intro rfl (And.intro rfl (And.intro ?_ (And.intro rfl (And.intro ?_ (And.intro rfl trivial))))))) (And.intro rfl (And.intro rfl (And.intro rfl (trivial))))
        · show AV.int .i64 ((nx.length : Int) + 1) = AV.int .i64 (((nx ++ [fr[i]]).length : Nat) : Int)
          rw [List.length_append]; rfl
        · show AV.sl 2 (g2 + 1) 0 (nx.length + 1) c3 = AV.sl 2 (g2 + 1) 0 (nx ++ [fr[i]]).length c3
          rw [List.length_append]; rfl
      · have hp' : ¬ 0 < fr[i] := by rw [← hgd]; simpa using hp
        have hnx1 : (fr.take (i + 1)).filter (fun x => decide (0 < x)) = nx := by rw [htk, List.filter_append, ← i2, List.filter_cons_of_neg (by simpa using hp')]; simp
        repeat ((conv => whnf); first | with_reducible refine O_step ?_ | with_reducible refine S_step ?_ | with_reducible refine D_step ?_ | with_reducible refine RO.exit ?_ | with_reducible refine RO.ret ?_ | ((with_reducible refine And.intro ?sc ?_); case sc => exact side) | ((with_reducible refine br_f ?sc ?_); case sc => exact sideB) | ((with_reducible refine br_t ?sc ?_); case sc => exact sideB))
        refine RO.same (i + 1, nx, g2, c2) ⟨by show i + 1 ≤ _; omega, by show nx = _; rw [← hnx1], i3⟩ (show fr.length - (i + 1) < fr.length - i by omega) (And.intro rfl (And.intro rfl (And.intro rfl (And.intro rfl (And.intro rfl (And.intro rfl (And.intro rfl (trivial)))))))) (And.intro rfl (And.intro rfl (And.intro rfl (trivial))))
    have hie : i = fr.length := by simp only [decide_eq_false_iff_not] at hi; omega
    subst hie
    rw [List.take_length] at i2
    have i2' : nx = posF fr := i2
    have hnl : nx.length = nF fr := by rw [i2', posF_len]
    have hpl := psum_len a
    repeat ((conv => whnf); first | with_reducible refine O_step ?_ | with_reducible refine S_step ?_ | with_reducible refine D_step ?_ | with_reducible refine RO.exit ?_ | with_reducible refine RO.ret ?_ | ((with_reducible refine And.intro ?sc ?_); case sc => exact side) | ((with_reducible refine br_f ?sc ?_); case sc => exact sideB) | ((with_reducible refine br_t ?sc ?_); case sc => exact sideB))
    refine WO.go (σ := Nat × List Int × Nat × Nat) (fun s => s.1 ≤ (psum a).length ∧ s.2.1 = nx ++ (psum a).take s.1 ∧ s.2.1.length ≤ s.2.2.2) (fun s => (psum a).length - s.1)
      (fun s => [(0, .sl 0 0 0 fr.length c0), (1, .int .i64 (N : Int)), (5, .sl 1 g 0 a.length c1), (6, .int .i64 ((nx.length : Nat) : Int)), (7, .int .i64 (r : Int)), (8, .sl 2 s.2.2.1 0 s.2.1.length s.2.2.2), (10, .int .i64 ((2 * s.1 : Nat) : Int))])
      (fun s => [.one false 0 (.ints .i64 fr c), .one true g (.ints .i64 a c1), .one true s.2.2.1 (.ints .i64 s.2.1 s.2.2.2)]) (0, nx, g2, c2) tb_ok mixed (by kernel_rfl) ⟨Nat.zero_le _, by simp, i3⟩ (And.intro rfl (And.intro rfl (And.intro rfl (And.intro rfl (And.intro rfl (And.intro rfl (And.intro rfl (trivial)))))))) (And.intro rfl (And.intro rfl (And.intro rfl (trivial)))) (fun _ => rfl) (fun _ => rfl) (fun _ => ⟨trivial, trivial, trivial, trivial⟩) ?_
    rintro ⟨j, nz, g3, c3⟩ ⟨j1, j2, j3⟩ d2
    simp only at j1 j2 j3
    have hnz : nz.length ≤ 2 * nF fr + 2 * nF fr := by rw [j2, List.length_append, List.length_take]; omega
    repeat ((conv => whnf); first | with_reducible refine O_step ?_ | with_reducible refine S_step ?_ | with_reducible refine D_step ?_ | with_reducible refine RO.exit ?_ | with_reducible refine RO.ret ?_ | ((with_reducible refine And.intro ?sc ?_); case sc => exact side) | ((with_reducible refine br_f ?sc ?_); case sc => exact sideB) | ((with_reducible refine br_t ?sc ?_); case sc => exact sideB))
    refine And.intro (fun hj => ?_) (fun hj => ?_)
    · have hjl : 2 * j + 1 < a.length := by simp only [decide_eq_true_eq] at hj; omega
      have hjp : j < (psum a).length := by omega
      have x1 : 0 ≤ a.getD (((2 * j : Nat) : Int).toNat + 0) 0 ∧ a.getD (((2 * j : Nat) : Int).toNat + 0) 0 ≤ 36028797018963968 := hab (2 * j) (by omega)
      have e1 : (((2 * j : Nat) : Int) + 1).toNat = 2 * j + 1 := by omega
      have x2 : 0 ≤ a.getD ((((2 * j : Nat) : Int) + 1).toNat + 0) 0 ∧ a.getD ((((2 * j : Nat) : Int) + 1).toNat + 0) 0 ≤ 36028797018963968 := by rw [e1]; exact hab (2 * j + 1) hjl
      repeat ((conv => whnf); first | with_reducible refine O_step ?_ | with_reducible refine S_step ?_ | with_reducible refine D_step ?_ | with_reducible refine RO.exit ?_ | with_reducible refine RO.ret ?_ | ((with_reducible refine And.intro ?sc ?_); case sc => exact side) | ((with_reducible refine br_f ?sc ?_); case sc => exact sideB) | ((with_reducible refine br_t ?sc ?_); case sc => exact sideB))
      intro zs hzs
      obtain rfl : zs = [(psum a).getD j 0] := by rw [hzs, psum_get a j hjl, e1]; rfl
      have htk : (psum a).take (j + 1) = (psum a).take j ++ [(psum a).getD j 0] := by rw [List.take_succ_eq_append_getElem hjp, List.getD_eq_getElem?_getD, List.getElem?_eq_getElem hjp]; rfl
      repeat ((conv => whnf); first | with_reducible refine O_step ?_ | with_reducible refine S_step ?_ | with_reducible refine D_step ?_ | with_reducible refine RO.exit ?_ | with_reducible refine RO.ret ?_ | ((with_reducible refine And.intro ?sc ?_); case sc => exact side) | ((with_reducible refine br_f ?sc ?_); case sc => exact sideB) | ((with_reducible refine br_t ?sc ?_); case sc => exact sideB))
      intro c4 hc4
      repeat ((conv => whnf); first | with_reducible refine O_step ?_ | with_reducible refine S_step ?_ | with_reducible refine D_step ?_ | with_reducible refine RO.exit ?_ | with_reducible refine RO.ret ?_ | ((with_reducible refine And.intro ?sc ?_); case sc => exact side) | ((with_reducible refine br_f ?sc ?_); case sc => exact sideB) | ((with_reducible refine br_t ?sc ?_); case sc => exact sideB))
      refine RO.same (j + 1, nz ++ [(psum a).getD j 0], g3 + 1, c4) ⟨by show j + 1 ≤ _; omega, by show nz ++ _ = _; rw [htk, j2, List.append_assoc], by show (nz ++ [_]).length ≤ c4; rw [List.length_append]; exact hc4⟩ (show (psum a).length - (j + 1) < (psum a).length - j by omega) (And.intro rfl (And.intro rfl (And.intro rfl (And.intro rfl (And.intro rfl (And.intro ?_ (And.intro ?_ trivial))))))) (And.intro rfl (And.intro rfl (And.intro rfl (trivial))))
      · show AV.sl 2 (g3 + 1) 0 (nz.length + 1) c4 = AV.sl 2 (g3 + 1) 0 (nz ++ [(psum a).getD j 0]).length c4
        rw [List.length_append]; rfl
      · show AV.int .i64 (((2 * j : Nat) : Int) + 2) = AV.int .i64 ((2 * (j + 1) : Nat) : Int)
        congr 1
    have hje : j = (psum a).length := by simp only [decide_eq_false_iff_not] at hj; omega
    subst hje
    rw [List.take_length, i2', r2] at j2
    repeat ((conv => whnf); first | with_reducible refine O_step ?_ | with_reducible refine S_step ?_ | with_reducible refine D_step ?_ | with_reducible refine RO.exit ?_ | with_reducible refine RO.ret ?_ | ((with_reducible refine And.intro ?sc ?_); case sc => exact side) | ((with_reducible refine br_f ?sc ?_); case sc => exact sideB) | ((with_reducible refine br_t ?sc ?_); case sc => exact sideB))
    refine rise_at (i := 2) (l := nz) rfl rfl (by omega) fun o g4 c5 hc5 ho1 ho2 => ?_
    have hoe : o = ws fr (r + 1) := ws_eq (by rw [← j2]; exact ho1) ho2
    repeat ((conv => whnf); first | with_reducible refine O_step ?_ | with_reducible refine S_step ?_ | with_reducible refine D_step ?_ | with_reducible refine RO.exit ?_ | with_reducible refine RO.ret ?_ | ((with_reducible refine And.intro ?sc ?_); case sc => exact side) | ((with_reducible refine br_f ?sc ?_); case sc => exact sideB) | ((with_reducible refine br_t ?sc ?_); case sc => exact sideB))
    refine RO.mk (r + 1, o, g + 1, c5, nx.length) [(0, .sl 0 0 0 fr.length c0), (1, .int .i64 (N : Int)), (5, .sl 3 g4 0 o.length c5), (6, .int .i64 ((nx.length : Nat) : Int)), (7, .int .i64 ((r : Int) + 1))] _ ⟨by show r + 1 ≤ N; omega, hoe, hc5, by show nx.length = if r + 1 = 0 then 0 else nF fr; rw [if_neg (by omega)]; exact hnl⟩ (show N - (r + 1) < N - r by omega) (And.intro rfl (And.intro rfl (And.intro rfl (And.intro rfl (And.intro rfl (trivial)))))) rfl
      (Vw.move (i := 1) (k := 3) rfl rfl rfl (And.intro mvV.same (And.intro mvV.same (And.intro mvV.sl (And.intro (.inl rfl) (And.intro (.inl rfl) trivial)))))) (And.intro rfl (And.intro rfl (trivial)))
  · have hre : r = N := by simp only [decide_eq_false_iff_not] at hr; omega
    subst hre
    rw [if_neg (by omega)] at r4
    have hlen : 2 * n - 2 ≤ a.length := by rw [r2, r4, ws_len]; exact rowsF_enough fr h1 hN
    repeat ((conv => whnf); first | with_reducible refine O_step ?_ | with_reducible refine S_step ?_ | with_reducible refine D_step ?_ | with_reducible refine RO.exit ?_ | with_reducible refine RO.ret ?_ | ((with_reducible refine And.intro ?sc ?_); case sc => exact side) | ((with_reducible refine br_f ?sc ?_); case sc => exact sideB) | ((with_reducible refine br_t ?sc ?_); case sc => exact sideB))
    refine WO.go (σ := Nat × Int) (fun s => s.1 ≤ 2 * n - 2 ∧ s.2 = wT fr r s.1 ∧ 0 ≤ s.2 ∧ s.2 ≤ s.1 * 36028797018963968) (fun s => 2 * n - 2 - s.1)
      (fun s => [(5, .sl 1 g 0 a.length c1), (6, .int .i64 (n : Int)), (11, .int .i64 s.2), (12, .int .i64 (s.1 : Int))])
      (fun s => [.one false 0 (.ints .i64 fr c), .one true g (.ints .i64 a c1)]) (0, 0) tb_ok mixed (by kernel_rfl) ⟨Nat.zero_le _, rfl, by decide, by decide⟩ (And.intro rfl (And.intro rfl (And.intro rfl (And.intro rfl (trivial))))) (And.intro rfl (And.intro rfl (trivial))) (fun _ => rfl) (fun _ => rfl) (fun _ => ⟨trivial, trivial, trivial⟩) ?_
    rintro ⟨i, su⟩ ⟨i1, i2, i3, i4⟩ d1
    simp only at i1 i2 i3 i4
    repeat ((conv => whnf); first | with_reducible refine O_step ?_ | with_reducible refine S_step ?_ | with_reducible refine D_step ?_ | with_reducible refine RO.exit ?_ | with_reducible refine RO.ret ?_ | ((with_reducible refine And.intro ?sc ?_); case sc => exact side) | ((with_reducible refine br_f ?sc ?_); case sc => exact sideB) | ((with_reducible refine br_t ?sc ?_); case sc => exact sideB))
    refine And.intro (fun hi => ?_) (fun hi => ?_)
    · have hil : i < 2 * n - 2 := by simp only [decide_eq_true_eq] at hi; omega
      have x1 : 0 ≤ a.getD ((i : Int).toNat + 0) 0 ∧ a.getD ((i : Int).toNat + 0) 0 ≤ 36028797018963968 := hab i (by omega)
      repeat ((conv => whnf); first | with_reducible refine O_step ?_ | with_reducible refine S_step ?_ | with_reducible refine D_step ?_ | with_reducible refine RO.exit ?_ | with_reducible refine RO.ret ?_ | ((with_reducible refine And.intro ?sc ?_); case sc => exact side) | ((with_reducible refine br_f ?sc ?_); case sc => exact sideB) | ((with_reducible refine br_t ?sc ?_); case sc => exact sideB))
      refine RO.same (i + 1, su + a.getD ((i : Int).toNat + 0) 0) ⟨by show i + 1 ≤ _; omega, ?_, by show 0 ≤ su + _; omega, by show su + _ ≤ ((i + 1 : Nat) : Int) * _; omega⟩ (show 2 * n - 2 - (i + 1) < 2 * n - 2 - i by omega) (And.intro rfl (And.intro rfl (And.intro rfl (And.intro rfl (trivial))))) (And.intro rfl (And.intro rfl (trivial)))
      show su + a.getD ((i : Int).toNat + 0) 0 = wT fr r (i + 1)
      have hsl : i < (srt fr r).length := by rw [r2, List.length_map] at hlen; omega
      have hg : a.getD ((i : Int).toNat + 0) 0 = (srt fr r)[i].w := by
        show a.getD i 0 = _
        rw [r2, List.getD_eq_getElem?_getD, List.getElem?_map, List.getElem?_eq_getElem hsl]; rfl
      rw [hg, i2]
      unfold wT
      rw [List.take_succ_eq_append_getElem hsl, sumI_append]
      simp only [sumI]; omega
    · have hie : i = 2 * n - 2 := by simp only [decide_eq_false_iff_not] at hi; omega
      rw [hie, r4] at i2
      rw [← i2] at hK
      repeat ((conv => whnf); first | with_reducible refine O_step ?_ | with_reducible refine S_step ?_ | with_reducible refine D_step ?_ | with_reducible refine RO.exit ?_ | with_reducible refine RO.ret ?_ | ((with_reducible refine And.intro ?sc ?_); case sc => exact side) | ((with_reducible refine br_f ?sc ?_); case sc => exact sideB) | ((with_reducible refine br_t ?sc ?_); case sc => exact sideB))
      exact Exists.intro [.one false 0 (.ints .i64 fr c)] (And.intro (And.intro rfl (trivial)) (And.intro ⟨trivial, trivial⟩ (And.intro rfl hK)))
end

end Go.Proofs.Ytdnmbmnfglbfoaa
