/- Layer 6: pairs. -/
import Derived.Test.YteinenklppbjkaaH3

set_option linter.unusedVariables false

set_option linter.unusedSimpArgs false

open Go.RowKit

namespace Go.Proofs.Yteinenklppbjkaa

set_option maxRecDepth 10000

theorem getD_mem {L : List It} {j : Nat} (h : j < L.length) : L.getD j default ∈ L := by
  rw [List.getD_eq_getElem?_getD, List.getElem?_eq_getElem h]; exact List.getElem_mem h
theorem mem_swapL {L : List It} {i j : Nat} (hi : i < L.length) (hj : j < L.length) {x : It} (h : x ∈ swapL L i j) : x ∈ L := by
  unfold swapL at h
  rcases List.mem_or_eq_of_mem_set h with h | rfl
  · rcases List.mem_or_eq_of_mem_set h with h | rfl
    · exact h
    · exact getD_mem hj
  · exact getD_mem hi
theorem mem_downG : ∀ {f n : Nat} {L : List It} {i : Nat}, n ≤ L.length → ∀ {x : It}, x ∈ downG f n L i → x ∈ L
  | 0, _, _, _, _, _, h => h
  | f + 1, n, L, i, hn, x, h => by
    simp only [downG] at h
    split at h
    · rename_i h1
      have hk := kidF_lt (L := L) h1
      split at h
      · exact mem_swapL (by omega) (by omega) (mem_downG (by rw [swapL_len]; exact hn) h)
      · exact h
    · exact h
theorem mem_downF {n : Nat} {L : List It} {i : Nat} (hn : n ≤ L.length) {x : It} (h : x ∈ downF n L i) : x ∈ L := mem_downG hn h
theorem mem_initF {n : Nat} {x : It} : ∀ (i : Nat) {L : List It}, n ≤ L.length → x ∈ initF n i L → x ∈ L
  | 0, _, _, h => h
  | i + 1, L, hn, h => mem_downF hn (mem_initF i (by rw [downF_len]; exact hn) h)
theorem mem_popF {h : Nat} {L : List It} (h0 : 0 < h) (hn : h ≤ L.length) {x : It} (hx : x ∈ popF h L) : x ∈ L := by
  unfold popF at hx
  exact mem_swapL (by omega) (by omega) (mem_downF (by rw [swapL_len]; omega) hx)
theorem mem_numF {i : Nat} {L : List It} {x : It} (h : x ∈ numF i L) : ∃ y ∈ L, y.w = x.w ∧ y.u = x.u := by
  obtain ⟨j, hj, rfl⟩ := List.getElem_of_mem h
  have hj' : j < L.length := by simpa [numF] using hj
  refine ⟨L[j], List.getElem_mem hj', ?_⟩
  simp only [numF, List.getElem_mapIdx]
  split <;> exact ⟨rfl, rfl⟩

theorem numF_zero (L : List It) : numF 0 L = L := by
  apply List.ext_getElem?
  intro j
  simp [numF]
/-- The items in the order in which they are taken. -/
def popsF : Nat → List It → List It
  | 0, _ => []
  | h + 1, L => (popF (h + 1) L).getD h default :: popsF h (popF (h + 1) L)
def pairUp : List It → List (It × It)
  | a :: b :: r => (a, b) :: pairUp r
  | _ => []
def startF (L : List It) : List It := initF L.length (L.length / 2) (numF L.length L)
theorem startF_len (L : List It) : (startF L).length = L.length := by unfold startF; rw [initF_len, numF_len]
def pairsF (L : List It) : List (It × It) := pairUp (popsF L.length (startF L))
/-- The new items, and their uses. -/
def outI (ps : List (It × It)) : List It := ps.mapIdx fun j p => ⟨p.1.w + p.2.w, 0, j⟩
def vsF (us : Nat → List Int) (ps : List (It × It)) (j : Nat) : List Int := List.zipWith (· + ·) (us (ps.getD j default).1.u) (us (ps.getD j default).2.u)
theorem outI_len (ps : List (It × It)) : (outI ps).length = ps.length := by simp [outI]
theorem pairUp_le : ∀ l : List It, l.length ≤ 1 → pairUp l = []
  | [], _ => rfl
  | [_], _ => rfl
  | _ :: _ :: _, h => by simp at h
theorem popsF_len : ∀ (h : Nat) (L : List It), (popsF h L).length = h
  | 0, _ => rfl
  | h + 1, L => by simp [popsF, popsF_len h]
def okI (m : Nat) (B : Int) (x : It) : Prop := x.u < m ∧ 0 ≤ x.w ∧ x.w ≤ B

theorem vsF_snoc {us : Nat → List Int} {ps : List (It × It)} {p : It × It} {r : Nat} (h : r < ps.length) : vsF us (ps ++ [p]) r = vsF us ps r := by
  unfold vsF; simp [List.getD_eq_getElem?_getD, List.getElem?_append_left h]
theorem vsF_last {us : Nat → List Int} {ps : List (It × It)} {a b : It} : vsF us (ps ++ [(a, b)]) ps.length = List.zipWith (· + ·) (us a.u) (us b.u) := by
  unfold vsF; simp [List.getD_eq_getElem?_getD]
theorem outI_snoc {ps : List (It × It)} {p : It × It} {r : Nat} (h : r < ps.length) : (outI (ps ++ [p])).getD r default = (outI ps).getD r default := by
  unfold outI; rw [List.mapIdx_append, List.getD_eq_getElem?_getD, List.getElem?_append_left (by simpa using h), ← List.getD_eq_getElem?_getD]
theorem outI_last {ps : List (It × It)} {a b : It} : (outI (ps ++ [(a, b)])).getD ps.length default = ⟨a.w + b.w, 0, ps.length⟩ := by
  unfold outI; simp [List.getD_eq_getElem?_getD]
theorem outI_u {ps : List (It × It)} {r : Nat} (h : r < ps.length) : ((outI ps).getD r default).u = r := by
  unfold outI; simp [List.getD_eq_getElem?_getD, h]
structure PairsOk (n m : Nat) (us : Nat → List Int) (B Bu : Int) (L : List It) : Prop where
  len : L.length ≤ 1000000
  items : ∀ x ∈ L, okI m B x
  ul : ∀ r, r < m → (us r).length = n
  uv : ∀ r, r < m → ∀ v ∈ us r, 0 ≤ v ∧ v ≤ Bu
  hn : n ≤ 1000000
  hB : B ≤ 2305843009213693952
  hBu : Bu ≤ 2305843009213693952

section

variable {n m c c0 : Nat} {cu : Nat → Nat} {us : Nat → List Int} {L : List It} {Kp : AV → AH → Prop} {B Bu : Int}

theorem ub_getD (ok : PairsOk n m us B Bu L) {r : Nat} (hr : r < m) {i : Nat} (hi : i < n) : 0 ≤ (us r).getD i 0 ∧ (us r).getD i 0 ≤ Bu := by
  have hl := ok.ul r hr
  have : (us r).getD i 0 ∈ us r := by
    rw [List.getD_eq_getElem?_getD, List.getElem?_eq_getElem (by omega)]; exact List.getElem_mem _
  exact ok.uv r hr _ this
theorem pairs_call (ok : PairsOk n m us B Bu L) : CallA Try.prog 56 [.sl 0 0 0 L.length c0] [winA n cu c L, .fam false m (uF us cu)]
    (fun r M => ∃ g' c' cv, r = .sl 3 g' 0 (pairsF L).length c' ∧ M = [winA n cu c L, .fam false m (uF us cu), .fam true (pairsF L).length (uF (vsF us (pairsF L)) cv), aO 2 n cv g' c' (outI (pairsF L))] ∧ (pairsF L).length ≤ c') Kp := by
  have hlen := ok.len
  refine CallA.post_pick ?_
  refine step56 (fun _ => [8, 9]) [] rfl ?_
  repeat ((conv => whnf); first | with_reducible refine O_step ?_ | with_reducible refine S_step ?_ | with_reducible refine D_step ?_ | with_reducible refine RO.exit ?_ | with_reducible refine RO.ret ?_ | ((with_reducible refine And.intro ?sc ?_); case sc => exact side) | ((with_reducible refine br_f ?sc ?_); case sc => exact sideB) | ((with_reducible refine br_t ?sc ?_); case sc => exact sideB))
  refine CallA.mono (cloneI_call (n := n) (m := m) (cu := cu) (us := us) (L := L) (Kp := fun _ _ => False) (by omega)) ?_ (fun _ _ h => h.elim)
  rintro r M ⟨gC, cC, rfl, rfl, hcC⟩
  repeat ((conv => whnf); first | with_reducible refine O_step ?_ | with_reducible refine S_step ?_ | with_reducible refine D_step ?_ | with_reducible refine RO.exit ?_ | with_reducible refine RO.ret ?_ | ((with_reducible refine And.intro ?sc ?_); case sc => exact side))
  refine WO.go (σ := Nat × List It) (fun s => s.1 ≤ L.length ∧ s.2 = numF s.1 L) (fun s => L.length - s.1)
    (fun s => [(2, .ns), (3, .ptr 3 0 0), (14, .int .i64 L.length), (15, .int .i64 (s.1 : Int))])
    (fun s => [winA n cu c L, .fam false m (uF us cu), aO 1 n cu gC cC s.2, qO 2 gC L.length cC]) (0, L) tb_ok mixed (by kernel_rfl) ⟨Nat.zero_le _, (numF_zero L).symm⟩ (And.intro rfl (And.intro rfl (And.intro rfl (And.intro rfl (trivial))))) (And.intro rfl (And.intro rfl (And.intro rfl (And.intro rfl (trivial))))) (fun _ => rfl) (fun _ => rfl) (fun _ => ⟨fun _ => rfl, fun _ => trivial, fun _ => rfl, rfl, trivial⟩) ?_
  rintro ⟨i, L1⟩ ⟨h1, h2⟩ d
  simp only at h1 h2
  have hl1 : L1.length = L.length := by rw [h2, numF_len]
  repeat ((conv => whnf); first | with_reducible refine O_step ?_ | with_reducible refine S_step ?_ | with_reducible refine D_step ?_ | with_reducible refine RO.exit ?_ | with_reducible refine RO.ret ?_ | ((with_reducible refine And.intro ?sc ?_); case sc => exact side))
  refine And.intro (fun hc => ?_) (fun hc => ?_)
  · simp only [decide_eq_true_eq] at hc
    repeat ((conv => whnf); first | with_reducible refine O_step ?_ | with_reducible refine S_step ?_ | with_reducible refine D_step ?_ | with_reducible refine RO.exit ?_ | with_reducible refine RO.ret ?_ | ((with_reducible refine And.intro ?sc ?_); case sc => exact side) | ((with_reducible refine br_f ?sc ?_); case sc => exact sideB) | ((with_reducible refine br_t ?sc ?_); case sc => exact sideB))
    refine RO.mk (i + 1, numF (i + 1) L) [(2, .ns), (3, .ptr 3 0 0), (14, .int .i64 L.length), (15, .int .i64 ((i : Int) + 1))] _ ⟨by show i + 1 ≤ _; omega, rfl⟩ (show L.length - (i + 1) < L.length - i by omega) (And.intro rfl (And.intro rfl (And.intro rfl (And.intro rfl (trivial))))) rfl (Vw.tab (i := 2) (gU 1 n cu (numF (i + 1) L)) rfl ?_) ?_
    · intro r hr
      rw [hl1] at hr
      have := num_store (u := 1) (n := n) (cu := cu) i L r hr (by omega)
      rw [this, h2]
      rfl
    · refine And.intro rfl (And.intro rfl (And.intro ?_ (And.intro rfl trivial)))
      show aO 1 n cu gC cC (numF (i + 1) L) = AO.one true gC (.tab 3 L1.length (gU 1 n cu (numF (i + 1) L)) cC)
      unfold aO
      rw [hl1, numF_len]
  · simp only [decide_eq_false_iff_not] at hc
    obtain rfl : i = L.length := by omega
    have hlc : L1.length ≤ cC := by omega
    repeat ((conv => whnf); first | with_reducible refine O_step ?_ | with_reducible refine S_step ?_ | with_reducible refine D_step ?_ | with_reducible refine RO.exit ?_ | with_reducible refine RO.ret ?_ | ((with_reducible refine And.intro ?sc ?_); case sc => exact side))
    refine init_at (q := 3) (a := 2) (u := 1) (L := L1) rfl rfl rfl rfl (by omega) hlc (by omega) ?_
    have hst : initF L.length (L.length / 2) L1 = startF L := by rw [h2]; rfl
    rw [hst]
    repeat ((conv => whnf); first | with_reducible refine O_step ?_ | with_reducible refine S_step ?_ | with_reducible refine D_step ?_ | with_reducible refine RO.exit ?_ | with_reducible refine RO.ret ?_ | ((with_reducible refine And.intro ?sc ?_); case sc => exact side))
    refine WO.gov (σ := Nat × List It × List (It × It) × Nat × Nat × (Nat → Nat)) (fun (h, Lc, ps, gO, cO, cv) => Lc.length = L.length ∧ h ≤ L.length ∧ ps ++ pairUp (popsF h Lc) = pairsF L ∧ (∀ x ∈ Lc, okI m B x) ∧ (outI ps).length ≤ cO ∧ 2 * ps.length + h ≤ L.length) (fun (h, _, _, _, _, _) => h)
      (fun (h, Lc, ps, gO, cO, cv) => [(3, .ptr 3 0 0), (5, .sl 5 gO 0 (outI ps).length cO)])
      (fun (h, Lc, ps, gO, cO, cv) => [winA n cu c L, .fam false m (uF us cu), aO 1 n cu gC cC Lc, qO 2 gC h cC, .fam true ps.length (uF (vsF us ps) cv), aO 4 n cv gO cO (outI ps)]) (L.length, startF L, [], 0, 0, fun _ => 0) tb_ok mixed (by kernel_rfl)
      [(3, .ptr 3 0 0), (5, .ns)] _ ⟨startF_len L, Nat.le_refl _, rfl, ?_, Nat.zero_le _, by simp⟩ (And.intro rfl (And.intro rfl (trivial))) rfl (Vw.trans (Vw.fam0 (own := true) (f := uF (vsF us []) (fun _ => 0))) (Vw.nils (x := .tab 3 (outI []).length (gU 4 n (fun _ => 0) (outI [])) 0) ⟨rfl, rfl⟩ ?_)) (And.intro rfl (And.intro rfl (And.intro rfl (And.intro rfl (And.intro rfl (And.intro rfl (trivial))))))) (fun _ => rfl) (fun _ => rfl) (fun _ => ⟨fun _ => rfl, fun _ => trivial, fun _ => rfl, rfl, fun _ => trivial, fun _ => rfl, trivial⟩) ?_
    · intro x hx
      obtain ⟨y, hy, e1, e2⟩ := mem_numF (mem_initF _ (by rw [numF_len]; exact Nat.le_refl _) hx)
      have := ok.items y hy
      unfold okI at this ⊢
      rw [← e1, ← e2]; exact this
    · exact And.intro (.inl rfl) (And.intro (.inr ⟨rfl, rfl⟩) trivial)
    rintro ⟨h, Lc, ps, gO, cO, cv⟩ ⟨i1, i2, i3, i4, i5, i6⟩ d
    repeat ((conv => whnf); first | with_reducible refine O_step ?_ | with_reducible refine S_step ?_ | with_reducible refine D_step ?_ | with_reducible refine RO.exit ?_ | with_reducible refine RO.ret ?_ | ((with_reducible refine And.intro ?sc ?_); case sc => exact side))
    refine qlen_at (q := 3) (a := 2) (u := 1) (L := Lc) rfl rfl rfl rfl ?_
    repeat ((conv => whnf); first | with_reducible refine O_step ?_ | with_reducible refine S_step ?_ | with_reducible refine D_step ?_ | with_reducible refine RO.exit ?_ | with_reducible refine RO.ret ?_ | ((with_reducible refine And.intro ?sc ?_); case sc => exact side))
    refine And.intro (fun hc => ?_) (fun hc => ?_)
    · simp only [decide_eq_true_eq] at hc
      obtain ⟨h', rfl⟩ : ∃ h', h = h' + 2 := ⟨h - 2, by omega⟩
      have hx1m : (popF (h' + 2) Lc).getD (h' + 1) default ∈ Lc := mem_popF (by omega) (by omega) (getD_mem (by rw [popF_len]; omega))
      generalize hL2 : popF (h' + 2) Lc = L2
      have hl2 : L2.length = Lc.length := by rw [← hL2, popF_len]
      have hL2m : ∀ x ∈ L2, okI m B x := fun x hx => i4 x (mem_popF (by omega) (by omega) (hL2 ▸ hx))
      rw [hL2] at hx1m
      generalize hx1 : L2.getD (h' + 1) default = x1
      have hx2m : (popF (h' + 1) L2).getD h' default ∈ L2 := mem_popF (by omega) (by omega) (getD_mem (by rw [popF_len]; omega))
      generalize hL3 : popF (h' + 1) L2 = L3
      have hl3 : L3.length = Lc.length := by rw [← hL3, popF_len, hl2]
      have hL3m : ∀ x ∈ L3, okI m B x := fun x hx => hL2m x (mem_popF (by omega) (by omega) (hL3 ▸ hx))
      rw [hL3] at hx2m
      generalize hx2 : L3.getD h' default = x2
      rw [hx1] at hx1m
      rw [hx2] at hx2m
      obtain ⟨k1u, k1a, k1b⟩ := i4 x1 hx1m
      obtain ⟨k2u, k2a, k2b⟩ := hL2m x2 hx2m
      have hB := ok.hB
      have hBu := ok.hBu
      have hn := ok.hn
      have hu1 := ok.ul _ k1u
      have hu2 := ok.ul _ k2u
      repeat ((conv => whnf); first | with_reducible refine O_step ?_ | with_reducible refine S_step ?_ | with_reducible refine D_step ?_ | with_reducible refine RO.exit ?_ | with_reducible refine RO.ret ?_ | ((with_reducible refine And.intro ?sc ?_); case sc => exact side))
      refine take_pull (q := 3) (a := 2) (u := 1) (h := h' + 1) (L := Lc) rfl rfl rfl rfl (by omega) (by omega) (by omega) (by omega) x1 (by rw [hL2]; exact hx1) k1u rfl ?_
      rw [hL2]
      repeat ((conv => whnf); first | with_reducible refine O_step ?_ | with_reducible refine S_step ?_ | with_reducible refine D_step ?_ | with_reducible refine RO.exit ?_ | with_reducible refine RO.ret ?_ | ((with_reducible refine And.intro ?sc ?_); case sc => exact side))
      refine take_pull (q := 3) (a := 2) (u := 1) (h := h') (L := L2) rfl rfl rfl rfl (by omega) (by omega) (by omega) (by omega) x2 (by rw [hL3]; exact hx2) k2u rfl ?_
      rw [hL3]
      repeat ((conv => whnf); first | with_reducible refine O_step ?_ | with_reducible refine S_step ?_ | with_reducible refine D_step ?_ | with_reducible refine RO.exit ?_ | with_reducible refine RO.ret ?_ | ((with_reducible refine And.intro ?sc ?_); case sc => exact side))
      refine And.intro ?_ ?_
      · repeat ((conv => whnf); first | with_reducible refine O_step ?_ | with_reducible refine S_step ?_ | with_reducible refine D_step ?_ | with_reducible refine RO.exit ?_ | with_reducible refine RO.ret ?_ | ((with_reducible refine And.intro ?sc ?_); case sc => exact side))
        refine cloneN_at (i := 6) (xs := us x1.u) rfl hu1.symm (by omega) fun gx cx hcx => ?_
        repeat ((conv => whnf); first | with_reducible refine O_step ?_ | with_reducible refine S_step ?_ | with_reducible refine D_step ?_ | with_reducible refine RO.exit ?_ | with_reducible refine RO.ret ?_ | ((with_reducible refine And.intro ?sc ?_); case sc => exact side))
        refine WO.go (σ := Nat × List Int) (fun s => s.1 ≤ n ∧ s.2.length = n ∧ (∀ j, j < s.1 → s.2.getD j 0 = (us x1.u).getD j 0 + (us x2.u).getD j 0) ∧ ∀ j, s.1 ≤ j → s.2.getD j 0 = (us x1.u).getD j 0) (fun s => n - s.1)
          (fun s => [(3, .ptr 3 0 0), (5, .sl 5 gO 0 (outI ps).length cO), (8, .ptr 11 0 0), (41, .sl 7 0 0 n (cu x2.u)), (42, .int .i64 n), (43, .int .i64 (s.1:Int))])
          (fun s => [winA n cu c L, .fam false m (uF us cu), aO 1 n cu gC cC L3, qO 2 gC h' cC, .fam true ps.length (uF (vsF us ps) cv), aO 4 n cv gO cO (outI ps), .gone, .one false 0 (.ints .i64 (us x2.u) (cu x2.u)), .gone, .gone, .one true gx (.ints .i64 s.2 cx), .one true 0 (.cells [.int .i64 (x1.w + x2.w), .int .i64 0, .sl 10 gx 0 (us x1.u).length cx])]) (0, us x1.u) tb_ok mixed (by kernel_rfl) ⟨Nat.zero_le _, hu1, fun j hj => absurd hj (Nat.not_lt_zero j), fun _ _ => rfl⟩ (And.intro rfl (And.intro rfl (And.intro rfl (And.intro rfl (And.intro rfl (And.intro rfl (trivial))))))) (And.intro rfl (And.intro rfl (And.intro rfl (And.intro rfl (And.intro rfl (And.intro rfl (And.intro trivial (And.intro rfl (And.intro trivial (And.intro trivial (And.intro rfl (And.intro rfl (trivial))))))))))))) (fun _ => rfl) (fun _ => rfl) (fun _ => ⟨fun _ => rfl, fun _ => trivial, fun _ => rfl, rfl, fun _ => trivial, fun _ => rfl, trivial, trivial, trivial, trivial, trivial, rfl, trivial⟩) ?_
        rintro ⟨i, ys⟩ ⟨j1, j2, j3, j4⟩ d
        simp only at j1 j2 j3 j4
        repeat ((conv => whnf); first | with_reducible refine O_step ?_ | with_reducible refine S_step ?_ | with_reducible refine D_step ?_ | with_reducible refine RO.exit ?_ | with_reducible refine RO.ret ?_ | ((with_reducible refine And.intro ?sc ?_); case sc => exact side))
        refine And.intro (fun hc => ?_) (fun hc => ?_)
        · simp only [decide_eq_true_eq] at hc
          have hi : i < n := by omega
          have b1 := ub_getD ok k1u (i := i) (by omega)
          have b2 := ub_getD ok k2u (i := i) (by omega)
          have hji := j4 i (Nat.le_refl _)
          have hov : -9223372036854775808 ≤ ys.getD ((i : Int).toNat + 0) 0 + (us x2.u).getD ((i : Int).toNat + 0) 0 ∧ ys.getD ((i : Int).toNat + 0) 0 + (us x2.u).getD ((i : Int).toNat + 0) 0 ≤ 9223372036854775807 := by
            simp only [Int.toNat_natCast, Nat.add_zero]; omega
          repeat ((conv => whnf); first | with_reducible refine O_step ?_ | with_reducible refine S_step ?_ | with_reducible refine D_step ?_ | with_reducible refine RO.exit ?_ | with_reducible refine RO.ret ?_ | ((with_reducible refine And.intro ?sc ?_); case sc => exact side) | ((with_reducible refine br_f ?sc ?_); case sc => exact sideB) | ((with_reducible refine br_t ?sc ?_); case sc => exact sideB))
          refine RO.same (i + 1, ys.set ((i : Int).toNat + 0) (ys.getD ((i : Int).toNat + 0) 0 + (us x2.u).getD ((i : Int).toNat + 0) 0)) ⟨by show i + 1 ≤ n; omega, by simpa using j2, ?_, ?_⟩ (show n - (i + 1) < n - i by omega) (And.intro rfl (And.intro rfl (And.intro rfl (And.intro rfl (And.intro rfl (And.intro rfl (trivial))))))) (And.intro rfl (And.intro rfl (And.intro rfl (And.intro rfl (And.intro rfl (And.intro rfl (And.intro trivial (And.intro rfl (And.intro trivial (And.intro trivial (And.intro rfl (And.intro rfl (trivial)))))))))))))
          · intro j hj
            simp only [Int.toNat_natCast, Nat.add_zero]
            by_cases hji' : j = i
            · subst hji'
              simp only [List.getD_eq_getElem?_getD, List.getElem?_set_self (show j < ys.length by omega)] at hji ⊢
              simp only [Option.getD_some, hji]
            · have := j3 j (by have : j < i + 1 := hj; omega)
              simp only [List.getD_eq_getElem?_getD, List.getElem?_set_ne (Ne.symm hji')] at this ⊢
              exact this
          · intro j hj
            have hj' : i + 1 ≤ j := hj
            simp only [Int.toNat_natCast, Nat.add_zero]
            have := j4 j (by omega)
            simp only [List.getD_eq_getElem?_getD, List.getElem?_set_ne (show i ≠ j by omega)] at this ⊢
            exact this
        · simp only [decide_eq_false_iff_not] at hc
          have hin : i = n := by omega
          have hys : ys = List.zipWith (· + ·) (us x1.u) (us x2.u) := by
            apply List.ext_getElem
            · simp; omega
            · intro j q1 q2
              have := j3 j (by omega)
              simp only [List.getD_eq_getElem?_getD, List.getElem?_eq_getElem q1, List.getElem?_eq_getElem (show j < (us x1.u).length by omega), List.getElem?_eq_getElem (show j < (us x2.u).length by omega), Option.getD_some] at this
              rw [this, List.getElem_zipWith]
          have hol := outI_len ps
          repeat ((conv => whnf); first | with_reducible refine O_step ?_ | with_reducible refine S_step ?_ | with_reducible refine D_step ?_ | with_reducible refine RO.exit ?_ | with_reducible refine RO.ret ?_ | ((with_reducible refine And.intro ?sc ?_); case sc => exact side))
          refine And.intro (fun q hq => ?_) ?_
          · match q, hq with
            | 0, _ => exact ⟨rfl, rfl⟩
          refine And.intro ⟨by show (outI ps).length + 1 ≤ _; omega, by show ((outI ps).length + 1) * 40 ≤ _; omega⟩ ?_
          refine Exists.intro (fun q => if q < ps.length then gU 4 n cv (outI ps) q else [.int .i64 (x1.w + x2.w), .int .i64 0, .sl 10 gx 0 (us x1.u).length cx]) (And.intro (fun q hq => ?_) (fun c1 hc1 => ?_))
          · by_cases hql : q < (outI ps).length
            · rw [if_pos hql]
              show (if q < ps.length then _ else _) = _
              rw [if_pos (by omega)]
            · have hq' : q < (outI ps).length + 1 := hq
              have hq2 : q - (outI ps).length = 0 := by omega
              rw [if_neg hql, hq2]
              show (if q < ps.length then _ else _) = _
              rw [if_neg (by omega)]
              rfl
          have hc1' : (outI ps).length + 1 ≤ c1 := hc1
          repeat ((conv => whnf); first | with_reducible refine O_step ?_ | with_reducible refine S_step ?_ | with_reducible refine D_step ?_ | with_reducible refine RO.exit ?_ | with_reducible refine RO.ret ?_ | ((with_reducible refine And.intro ?sc ?_); case sc => exact side))
          refine RO.mk (h', L3, ps ++ [(x1, x2)], gO + 1, c1, fun r => if r = ps.length then cx else cv r) [(3, .ptr 3 0 0), (5, .sl 5 (gO + 1) 0 ((outI ps).length + 1) c1)] _ ⟨by omega, by omega, ?_, hL3m, ?_, ?_⟩ (show h' < h' + 2 by omega) (And.intro rfl (And.intro rfl (trivial))) rfl
            (Vw.freeze (iu := 4) (k := 10) (o := 5) (uF (vsF us (ps ++ [(x1, x2)])) (fun r => if r = ps.length then cx else cv r)) (gU 4 n (fun r => if r = ps.length then cx else cv r) (outI (ps ++ [(x1, x2)]))) rfl rfl rfl rfl ?_ ?_ ?_ ?_) ?_
          · rw [← i3]
            simp only [popsF, hL2, hL3, hx1, hx2, pairUp, List.append_assoc, List.singleton_append]
          · show (outI (ps ++ [(x1, x2)])).length ≤ c1
            rw [outI_len, List.length_append]; simp only [List.length_singleton]; omega
          · show 2 * (ps ++ [(x1, x2)]).length + h' ≤ L.length
            rw [List.length_append]; simp only [List.length_singleton]; omega
          · intro r hr
            show Cont.ints .i64 _ _ = Cont.ints .i64 _ _
            simp only [vsF_snoc hr, if_neg (Nat.ne_of_lt hr)]
          · show Cont.ints .i64 _ _ = Cont.ints .i64 ys cx
            simp only [vsF_last, if_true, hys]
          · intro r hr
            have hr' : r < (outI ps).length + 1 := hr
            show AV.rml _ (cellU 4 n _ ((outI (ps ++ [(x1, x2)])).getD r default)) = (if r < ps.length then _ else _)
            by_cases hrl : r < ps.length
            · rw [if_pos hrl, outI_snoc hrl]
              show _ = [AV.int .i64 ((outI ps).getD r default).w, AV.int .i64 ((outI ps).getD r default).k, AV.sl 4 ((outI ps).getD r default).u 0 n (cv ((outI ps).getD r default).u)]
              simp only [AV.rml, AV.rm, outI_u hrl, phi1_ne (show ¬ (4 = 4 ∧ r = ps.length) by omega), if_neg (Nat.ne_of_lt hrl)]
            · obtain rfl : r = ps.length := by omega
              rw [if_neg hrl, outI_last]
              simp only [AV.rml, AV.rm, phi1_eq, if_true, hu1]
          · show AV.rml _ [AV.ptr 3 0 0, AV.sl 5 (gO + 1) 0 (outI (ps ++ [(x1, x2)])).length c1] = [AV.ptr 3 0 0, AV.sl 5 (gO + 1) 0 ((outI ps).length + 1) c1]
            rw [outI_len, List.length_append, hol]
            rfl
          · refine And.intro rfl (And.intro rfl (And.intro rfl (And.intro rfl (And.intro ?_ (And.intro ?_ trivial)))))
            · show AO.fam true (ps ++ [(x1, x2)]).length _ = AO.fam true (ps.length + 1) _
              rw [List.length_append]; rfl
            · show aO 4 n _ (gO + 1) c1 (outI (ps ++ [(x1, x2)])) = AO.one true (gO + 1) (.tab 3 ((outI ps).length + 1) _ c1)
              unfold aO
              rw [outI_len (ps ++ [(x1, x2)]), List.length_append, hol]; rfl
      · repeat ((conv => whnf); first | with_reducible refine O_step ?_ | with_reducible refine S_step ?_ | with_reducible refine D_step ?_ | with_reducible refine RO.exit ?_ | with_reducible refine RO.ret ?_ | ((with_reducible refine And.intro ?sc ?_); case sc => exact side))
        refine cloneN_at (i := 6) (xs := us x1.u) rfl hu1.symm (by omega) fun gx cx hcx => ?_
        repeat ((conv => whnf); first | with_reducible refine O_step ?_ | with_reducible refine S_step ?_ | with_reducible refine D_step ?_ | with_reducible refine RO.exit ?_ | with_reducible refine RO.ret ?_ | ((with_reducible refine And.intro ?sc ?_); case sc => exact side))
        refine WO.go (σ := Nat × List Int) (fun s => s.1 ≤ n ∧ s.2.length = n ∧ (∀ j, j < s.1 → s.2.getD j 0 = (us x1.u).getD j 0 + (us x2.u).getD j 0) ∧ ∀ j, s.1 ≤ j → s.2.getD j 0 = (us x1.u).getD j 0) (fun s => n - s.1)
          (fun s => [(3, .ptr 3 0 0), (5, .sl 5 gO 0 (outI ps).length cO), (8, .ptr 10 0 0), (41, .sl 7 0 0 n (cu x2.u)), (42, .int .i64 n), (43, .int .i64 (s.1:Int))])
          (fun s => [winA n cu c L, .fam false m (uF us cu), aO 1 n cu gC cC L3, qO 2 gC h' cC, .fam true ps.length (uF (vsF us ps) cv), aO 4 n cv gO cO (outI ps), .gone, .one false 0 (.ints .i64 (us x2.u) (cu x2.u)), .gone, .gone, .one true 0 (.cells [.int .i64 (x1.w + x2.w), .int .i64 0, .sl 11 gx 0 (us x1.u).length cx]), .one true gx (.ints .i64 s.2 cx)]) (0, us x1.u) tb_ok mixed (by kernel_rfl) ⟨Nat.zero_le _, hu1, fun j hj => absurd hj (Nat.not_lt_zero j), fun _ _ => rfl⟩ (And.intro rfl (And.intro rfl (And.intro rfl (And.intro rfl (And.intro rfl (And.intro rfl (trivial))))))) (And.intro rfl (And.intro rfl (And.intro rfl (And.intro rfl (And.intro rfl (And.intro rfl (And.intro trivial (And.intro rfl (And.intro trivial (And.intro trivial (And.intro rfl (And.intro rfl (trivial))))))))))))) (fun _ => rfl) (fun _ => rfl) (fun _ => ⟨fun _ => rfl, fun _ => trivial, fun _ => rfl, rfl, fun _ => trivial, fun _ => rfl, trivial, trivial, trivial, trivial, rfl, trivial, trivial⟩) ?_
        rintro ⟨i, ys⟩ ⟨j1, j2, j3, j4⟩ d
        simp only at j1 j2 j3 j4
        repeat ((conv => whnf); first | with_reducible refine O_step ?_ | with_reducible refine S_step ?_ | with_reducible refine D_step ?_ | with_reducible refine RO.exit ?_ | with_reducible refine RO.ret ?_ | ((with_reducible refine And.intro ?sc ?_); case sc => exact side))
        refine And.intro (fun hc => ?_) (fun hc => ?_)
        · simp only [decide_eq_true_eq] at hc
          have hi : i < n := by omega
          have b1 := ub_getD ok k1u (i := i) (by omega)
          have b2 := ub_getD ok k2u (i := i) (by omega)
          have hji := j4 i (Nat.le_refl _)
          have hov : -9223372036854775808 ≤ ys.getD ((i : Int).toNat + 0) 0 + (us x2.u).getD ((i : Int).toNat + 0) 0 ∧ ys.getD ((i : Int).toNat + 0) 0 + (us x2.u).getD ((i : Int).toNat + 0) 0 ≤ 9223372036854775807 := by
            simp only [Int.toNat_natCast, Nat.add_zero]; omega
          repeat ((conv => whnf); first | with_reducible refine O_step ?_ | with_reducible refine S_step ?_ | with_reducible refine D_step ?_ | with_reducible refine RO.exit ?_ | with_reducible refine RO.ret ?_ | ((with_reducible refine And.intro ?sc ?_); case sc => exact side) | ((with_reducible refine br_f ?sc ?_); case sc => exact sideB) | ((with_reducible refine br_t ?sc ?_); case sc => exact sideB))
          refine RO.same (i + 1, ys.set ((i : Int).toNat + 0) (ys.getD ((i : Int).toNat + 0) 0 + (us x2.u).getD ((i : Int).toNat + 0) 0)) ⟨by show i + 1 ≤ n; omega, by simpa using j2, ?_, ?_⟩ (show n - (i + 1) < n - i by omega) (And.intro rfl (And.intro rfl (And.intro rfl (And.intro rfl (And.intro rfl (And.intro rfl (trivial))))))) (And.intro rfl (And.intro rfl (And.intro rfl (And.intro rfl (And.intro rfl (And.intro rfl (And.intro trivial (And.intro rfl (And.intro trivial (And.intro trivial (And.intro rfl (And.intro rfl (trivial)))))))))))))
          · intro j hj
            simp only [Int.toNat_natCast, Nat.add_zero]
            by_cases hji' : j = i
            · subst hji'
              simp only [List.getD_eq_getElem?_getD, List.getElem?_set_self (show j < ys.length by omega)] at hji ⊢
              simp only [Option.getD_some, hji]
            · have := j3 j (by have : j < i + 1 := hj; omega)
              simp only [List.getD_eq_getElem?_getD, List.getElem?_set_ne (Ne.symm hji')] at this ⊢
              exact this
          · intro j hj
            have hj' : i + 1 ≤ j := hj
            simp only [Int.toNat_natCast, Nat.add_zero]
            have := j4 j (by omega)
            simp only [List.getD_eq_getElem?_getD, List.getElem?_set_ne (show i ≠ j by omega)] at this ⊢
            exact this
        · simp only [decide_eq_false_iff_not] at hc
          have hin : i = n := by omega
          have hys : ys = List.zipWith (· + ·) (us x1.u) (us x2.u) := by
            apply List.ext_getElem
            · simp; omega
            · intro j q1 q2
              have := j3 j (by omega)
              simp only [List.getD_eq_getElem?_getD, List.getElem?_eq_getElem q1, List.getElem?_eq_getElem (show j < (us x1.u).length by omega), List.getElem?_eq_getElem (show j < (us x2.u).length by omega), Option.getD_some] at this
              rw [this, List.getElem_zipWith]
          have hol := outI_len ps
          repeat ((conv => whnf); first | with_reducible refine O_step ?_ | with_reducible refine S_step ?_ | with_reducible refine D_step ?_ | with_reducible refine RO.exit ?_ | with_reducible refine RO.ret ?_ | ((with_reducible refine And.intro ?sc ?_); case sc => exact side))
          refine And.intro (fun q hq => ?_) ?_
          · match q, hq with
            | 0, _ => exact ⟨rfl, rfl⟩
          refine And.intro ⟨by show (outI ps).length + 1 ≤ _; omega, by show ((outI ps).length + 1) * 40 ≤ _; omega⟩ ?_
          refine Exists.intro (fun q => if q < ps.length then gU 4 n cv (outI ps) q else [.int .i64 (x1.w + x2.w), .int .i64 0, .sl 11 gx 0 (us x1.u).length cx]) (And.intro (fun q hq => ?_) (fun c1 hc1 => ?_))
          · by_cases hql : q < (outI ps).length
            · rw [if_pos hql]
              show (if q < ps.length then _ else _) = _
              rw [if_pos (by omega)]
            · have hq' : q < (outI ps).length + 1 := hq
              have hq2 : q - (outI ps).length = 0 := by omega
              rw [if_neg hql, hq2]
              show (if q < ps.length then _ else _) = _
              rw [if_neg (by omega)]
              rfl
          have hc1' : (outI ps).length + 1 ≤ c1 := hc1
          repeat ((conv => whnf); first | with_reducible refine O_step ?_ | with_reducible refine S_step ?_ | with_reducible refine D_step ?_ | with_reducible refine RO.exit ?_ | with_reducible refine RO.ret ?_ | ((with_reducible refine And.intro ?sc ?_); case sc => exact side))
          refine RO.mk (h', L3, ps ++ [(x1, x2)], gO + 1, c1, fun r => if r = ps.length then cx else cv r) [(3, .ptr 3 0 0), (5, .sl 5 (gO + 1) 0 ((outI ps).length + 1) c1)] _ ⟨by omega, by omega, ?_, hL3m, ?_, ?_⟩ (show h' < h' + 2 by omega) (And.intro rfl (And.intro rfl (trivial))) rfl
            (Vw.freeze (iu := 4) (k := 11) (o := 5) (uF (vsF us (ps ++ [(x1, x2)])) (fun r => if r = ps.length then cx else cv r)) (gU 4 n (fun r => if r = ps.length then cx else cv r) (outI (ps ++ [(x1, x2)]))) rfl rfl rfl rfl ?_ ?_ ?_ ?_) ?_
          · rw [← i3]
            simp only [popsF, hL2, hL3, hx1, hx2, pairUp, List.append_assoc, List.singleton_append]
          · show (outI (ps ++ [(x1, x2)])).length ≤ c1
            rw [outI_len, List.length_append]; simp only [List.length_singleton]; omega
          · show 2 * (ps ++ [(x1, x2)]).length + h' ≤ L.length
            rw [List.length_append]; simp only [List.length_singleton]; omega
          · intro r hr
            show Cont.ints .i64 _ _ = Cont.ints .i64 _ _
            simp only [vsF_snoc hr, if_neg (Nat.ne_of_lt hr)]
          · show Cont.ints .i64 _ _ = Cont.ints .i64 ys cx
            simp only [vsF_last, if_true, hys]
          · intro r hr
            have hr' : r < (outI ps).length + 1 := hr
            show AV.rml _ (cellU 4 n _ ((outI (ps ++ [(x1, x2)])).getD r default)) = (if r < ps.length then _ else _)
            by_cases hrl : r < ps.length
            · rw [if_pos hrl, outI_snoc hrl]
              show _ = [AV.int .i64 ((outI ps).getD r default).w, AV.int .i64 ((outI ps).getD r default).k, AV.sl 4 ((outI ps).getD r default).u 0 n (cv ((outI ps).getD r default).u)]
              simp only [AV.rml, AV.rm, outI_u hrl, phi1_ne (show ¬ (4 = 4 ∧ r = ps.length) by omega), if_neg (Nat.ne_of_lt hrl)]
            · obtain rfl : r = ps.length := by omega
              rw [if_neg hrl, outI_last]
              simp only [AV.rml, AV.rm, phi1_eq, if_true, hu1]
          · show AV.rml _ [AV.ptr 3 0 0, AV.sl 5 (gO + 1) 0 (outI (ps ++ [(x1, x2)])).length c1] = [AV.ptr 3 0 0, AV.sl 5 (gO + 1) 0 ((outI ps).length + 1) c1]
            rw [outI_len, List.length_append, hol]
            rfl
          · refine And.intro rfl (And.intro rfl (And.intro rfl (And.intro rfl (And.intro ?_ (And.intro ?_ trivial)))))
            · show AO.fam true (ps ++ [(x1, x2)]).length _ = AO.fam true (ps.length + 1) _
              rw [List.length_append]; rfl
            · show aO 4 n _ (gO + 1) c1 (outI (ps ++ [(x1, x2)])) = AO.one true (gO + 1) (.tab 3 ((outI ps).length + 1) _ c1)
              unfold aO
              rw [outI_len (ps ++ [(x1, x2)]), List.length_append, hol]; rfl
    · simp only [decide_eq_false_iff_not] at hc
      have e : ps = pairsF L := by rw [← i3, pairUp_le _ (by rw [popsF_len]; omega), List.append_nil]
      subst e
      repeat ((conv => whnf); first | with_reducible refine O_step ?_ | with_reducible refine S_step ?_ | with_reducible refine D_step ?_ | with_reducible refine RO.exit ?_ | with_reducible refine RO.ret ?_ | ((with_reducible refine And.intro ?sc ?_); case sc => exact side))
      refine ⟨[.sha 0, .sha 1, .own 4, .own 5], .sl 3 gO 0 (pairsF L).length cO, [winA n cu c L, .fam false m (uF us cu), .fam true (pairsF L).length (uF (vsF us (pairsF L)) cv), aO 2 n cv gO cO (outI (pairsF L))], ⟨?_, rfl, ?_, ?_, ?_⟩, gO, cO, cv, rfl, rfl, by rw [← outI_len]; exact i5⟩
      · exact ⟨⟨rfl, _, rfl, rfl⟩, ⟨rfl, _, rfl, rfl⟩, ⟨rfl, rfl⟩, ⟨rfl, rfl⟩, trivial⟩
      · exact ⟨fun _ => rfl, fun _ => trivial, fun _ => trivial, fun _ => rfl, trivial⟩
      · show AV.sl 5 gO 0 (pairsF L).length cO = AV.sl 5 gO 0 (outI (pairsF L)).length cO
        rw [outI_len]
      · intro i hi
        match i, hi with
        | 0, _ => exact .inr rfl
        | 1, _ => exact .inr rfl
end

end Go.Proofs.Yteinenklppbjkaa
