/- The rules of the operations that leave the world alone are sound. -/
import Derived.Test.YtaioclggifdnhaaAb2
set_option linter.unusedVariables false
set_option linter.unusedSimpArgs false
open Go.RowKit
namespace Go.Proofs.Ytaioclggifdnhaa

theorem TabOK.size {P : Program} {T : List TI} (h : TabOK P T) {t : Nat} {ti : TI} (ht : T[t]? = some ti) (w : World) : (sizeOf t).run P w = .ok ti.size w := by
  obtain ⟨d, i, z, h1, h2, h3, rfl⟩ := h.get ht
  simp [sizeOf, typeInfo, h2]
theorem TabOK.isAgg {P : Program} {T : List TI} (h : TabOK P T) {t : Nat} {ti : TI} (ht : T[t]? = some ti) (w : World) : (isAgg t).run P w = .ok ti.k.isAgg w := by
  obtain ⟨d, i, z, h1, h2, h3, rfl⟩ := h.get ht
  cases d <;> simp [Go.isAgg, run_underlying h1, tkOf, TK.isAgg]
theorem TabOK.zero {P : Program} {T : List TI} (h : TabOK P T) {t : Nat} {ti : TI} (ht : T[t]? = some ti) : ∃ z, (∀ w, (zeroValue t).run P w = .ok z w) ∧ ∀ ρ, z.cells.toList = AV.cl ρ ti.zero := by
  obtain ⟨d, i, z, h1, h2, h3, rfl⟩ := h.get ht
  refine ⟨z, fun w => by simp [zeroValue, typeInfo, h2, h3], fun ρ => ?_⟩
  simp [AV.cl_eq, Function.comp_def, ofS_c]
theorem TabOK.zero_ok {P : Program} {T : List TI} (h : TabOK P T) {t : Nat} {ti : TI} (ht : T[t]? = some ti) (ρ : Env) : AV.okl ρ ti.zero := by
  obtain ⟨d, i, z, h1, h2, h3, rfl⟩ := h.get ht
  rw [AV.okl_iff]
  intro v hv
  obtain ⟨x, _, rfl⟩ := List.mem_map.1 hv
  exact ofS_ok ρ x

theorem add_addr (b o k : Nat) : (⟨b, o, none⟩ : Addr).add k = ⟨b, o + k, none⟩ := by
  unfold Addr.add; split
  · subst_vars; rfl
  · rfl

theorem partA_sound {P : Program} {T : List TI} (hT : TabOK P T) {t : Nat} {ti : TI} (ht : T[t]? = some ti) {l : List AV} {off : Nat} {K : AV → Prop} {ρ : Env} (hl : AV.okl ρ l)
    (h : partA ti l off K) : ∃ v, K v ∧ v.ok ρ ∧ Ans P (part t (AV.cl ρ l).toArray off) (v.c ρ) := by
  unfold partA at h
  split at h
  · rename_i hk
    refine ⟨_, h, ?_, fun w => ?_⟩
    · simp only [AV.ok, AV.okl_iff] at hl ⊢
      exact fun v hv => hl v (List.mem_of_mem_drop (List.mem_of_mem_take hv))
    · simp [part, hT.isAgg ht, hk, hT.size ht, AV.c, AV.cl_eq, List.map_take, List.map_drop]
  · rename_i hk
    split at h
    · rename_i v hv
      refine ⟨v, h, (AV.okl_iff ρ l).1 hl v (List.mem_of_getElem? hv), fun w => ?_⟩
      simp [part, hT.isAgg ht, hk, AV.cl_eq, hv]
    · exact h.elim

theorem sl_c {ρ : Env} {i g off n c : Nat} : ∃ a : Option Addr, (AV.sl i g off n c).c ρ = .slice a n c ∧ ∀ k, (AV.sl i g (off + k) n c).c ρ = .slice (a.map (·.add k)) n c := by
  simp only [AV.c]
  split
  · exact ⟨_, rfl, fun k => by simp [add_addr, Nat.add_assoc]⟩
  · exact ⟨none, rfl, fun k => rfl⟩

theorem sl_c2 {ρ : Env} {i g off n c n' c' : Nat} {a : Option Addr} (h : (AV.sl i g off n c).c ρ = .slice a n c) : (AV.sl i g off n' c').c ρ = .slice a n' c' := by
  simp only [AV.c] at h ⊢
  split at h <;> rename_i hq <;> simp_all

theorem sl_off {ρ : Env} {i g off n c n' c' m l sz : Nat} {a : Option Addr} (h : (AV.sl i g off n c).c ρ = .slice a n c) : (AV.sl i g (offS m l off sz) n' c').c ρ = .slice (if m = l then a else a.map (·.add (l * sz))) n' c' := by
  unfold offS
  by_cases hm : m = l
  · rw [if_pos hm, if_pos hm]; exact sl_c2 h
  · rw [if_neg hm, if_neg hm]
    obtain ⟨a', h1, h2⟩ := sl_c (ρ := ρ) (i := i) (g := g) (off := off) (n := n) (c := c)
    rw [h] at h1
    injection h1 with h1 _ _
    subst h1
    exact sl_c2 (h2 (l * sz))

theorem run_sliceAt {P : Program} {t e : Nat} {x : Value} {lo hi mx : Option Value} (hd : P.underlying t = some (.slice e)) (w : World) : (Instr.sliceAt t x lo hi mx).run P w = (Instr.slice t x lo hi mx).run P w := by
  simp [Instr.sliceAt, run_underlying hd]
theorem run_sliceAt_str {P : Program} {t : Nat} {x : Value} {lo hi mx : Option Value} (hd : P.underlying t = some .string) (w : World) : (Instr.sliceAt t x lo hi mx).run P w = (Instr.slice t x lo hi mx).run P w := by
  simp [Instr.sliceAt, run_underlying hd]

theorem sliceA_sound {P : Program} {T : List TI} (hT : TabOK P T) {t : Nat} {x : AV} {lo hi : Option AV} {K : AV → Prop} {ρ : Env} (hx : x.ok ρ)
    (h : sliceA T t x lo hi K) : ∃ v, K v ∧ v.ok ρ ∧ Ans P (Instr.sliceAt t (x.c ρ) (lo.map (AV.c ρ)) (hi.map (AV.c ρ)) none) (v.c ρ) := by
  unfold sliceA at h
  split at h
  · rename_i i g off n c
    split at h
    · rename_i e s1 s2 s3 ht
      obtain ⟨d, hd, hkd⟩ := hT.und ht
      obtain rfl := tkOf_slice hkd
      obtain ⟨a, ha, _⟩ := sl_c (ρ := ρ) (i := i) (g := g) (off := off) (n := n) (c := c)
      split at h
      · rename_i te hte
        have hs := hT.size hte
        split at h
        · refine ⟨_, h, hx, fun w => ?_⟩
          rw [run_sliceAt hd, ha]
          simp [Instr.slice, run_underlying hd, Instr.sliceBounds, hs]
          rcases a with _ | a <;> simp [Addr.add]
        · rename_i k hh
          obtain ⟨⟨h1, h2⟩, h⟩ := h
          refine ⟨_, h, hx, fun w => ?_⟩
          rw [run_sliceAt hd, ha, sl_c2 ha]
          simp [Instr.slice, run_underlying hd, Instr.sliceBounds, Instr.sliceBound, asIntOf, AV.c, hs, h1, h2]
          rcases a with _ | a <;> simp [Addr.add]
        · rename_i k l
          obtain ⟨⟨h1, h2⟩, hnc, h⟩ := h
          refine ⟨_, h, hx, fun w => ?_⟩
          rw [run_sliceAt hd, ha, sl_off ha]
          simp [Instr.slice, run_underlying hd, Instr.sliceBounds, Instr.sliceBound, asIntOf, AV.c, hs, h1, h2]
        · rename_i k l k' hh
          obtain ⟨⟨h1, h2, h3⟩, h⟩ := h
          refine ⟨_, h, hx, fun w => ?_⟩
          have h0 : 0 ≤ hh := Int.le_trans h1 h2
          have h4 : l ≤ (hh.toNat : Int) := by omega
          rw [run_sliceAt hd, ha, sl_off ha]
          simp [Instr.slice, run_underlying hd, Instr.sliceBounds, Instr.sliceBound, asIntOf, AV.c, hs, h0, h1, h3, h4]
          intro hc; exfalso; omega
        · exact h.elim
      · exact h.elim
    · exact h.elim
  · rename_i s
    split at h
    · rename_i s1 s2 s3 ht
      obtain ⟨d, hd, hkd⟩ := hT.und ht
      obtain rfl := tkOf_str hkd
      split at h
      · refine ⟨_, h, trivial, fun w => ?_⟩
        rw [run_sliceAt_str hd]
        simp [Instr.slice, run_underlying hd, Instr.sliceBounds, AV.c]
      · rename_i k hh
        obtain ⟨⟨h1, h2⟩, h⟩ := h
        refine ⟨_, h, trivial, fun w => ?_⟩
        rw [run_sliceAt_str hd]
        simp [Instr.slice, run_underlying hd, Instr.sliceBounds, Instr.sliceBound, asIntOf, AV.c, h1, h2]
      · rename_i k l
        obtain ⟨⟨h1, h2⟩, h⟩ := h
        refine ⟨_, h, trivial, fun w => ?_⟩
        rw [run_sliceAt_str hd]
        simp [Instr.slice, run_underlying hd, Instr.sliceBounds, Instr.sliceBound, asIntOf, AV.c, h1, h2]
      · rename_i k l k' hh
        obtain ⟨⟨h1, h2, h3⟩, h⟩ := h
        refine ⟨_, h, trivial, fun w => ?_⟩
        have h0 : 0 ≤ hh := Int.le_trans h1 h2
        have h4 : l ≤ (hh.toNat : Int) := by omega
        rw [run_sliceAt_str hd]
        simp [Instr.slice, run_underlying hd, Instr.sliceBounds, Instr.sliceBound, asIntOf, AV.c, h0, h1, h3, h4]
        intro hc; exfalso; omega
      · exact h.elim
    · exact h.elim
  · exact h.elim

theorem slice3A_sound {P : Program} {T : List TI} (hT : TabOK P T) {t : Nat} {x mx : AV} {lo hi : Option AV} {K : AV → Prop} {ρ : Env} (hx : x.ok ρ)
    (h : slice3A T t x lo hi mx K) : ∃ v, K v ∧ v.ok ρ ∧ Ans P (Instr.sliceAt t (x.c ρ) (lo.map (AV.c ρ)) (hi.map (AV.c ρ)) (some (mx.c ρ))) (v.c ρ) := by
  unfold slice3A at h
  split at h
  · rename_i i g off n c
    split at h
    · rename_i e s1 s2 s3 ht
      obtain ⟨d, hd, hkd⟩ := hT.und ht
      obtain rfl := tkOf_slice hkd
      obtain ⟨a, ha, _⟩ := sl_c (ρ := ρ) (i := i) (g := g) (off := off) (n := n) (c := c)
      split at h
      · rename_i te hte
        have hs := hT.size hte
        split at h
        · rename_i k hh k' m
          obtain ⟨⟨h1, h2, h3⟩, h⟩ := h
          refine ⟨_, h, hx, fun w => ?_⟩
          have h0 : 0 ≤ m := Int.le_trans h1 h2
          have h4 : hh ≤ max m 0 := by omega
          rw [run_sliceAt hd, ha, sl_c2 ha]
          simp [Instr.slice, run_underlying hd, Instr.sliceBounds, Instr.sliceBound, asIntOf, AV.c, hs, h0, h1, h3, h4]
          rcases a with _ | a <;> simp [Addr.add]
        · rename_i k l k' hh k'' m
          obtain ⟨⟨h1, h2, h3, h4⟩, h⟩ := h
          refine ⟨_, h, hx, fun w => ?_⟩
          have h5 : 0 ≤ hh := Int.le_trans h1 h2
          have h6 : 0 ≤ m := Int.le_trans h5 h3
          have h7 : hh ≤ max m 0 := by omega
          have h8 : l ≤ max hh 0 := by omega
          rw [run_sliceAt hd, ha, sl_off ha]
          simp [Instr.slice, run_underlying hd, Instr.sliceBounds, Instr.sliceBound, asIntOf, AV.c, hs, h1, h4, h5, h6, h7, h8]
        · exact h.elim
      · exact h.elim
    · exact h.elim
  · exact h.elim

theorem sl_live {ρ : Env} {M : AH} {i g off n c : Nat} {own : Bool} {x : Cont} (hk : Known ρ M) (hs : slot M i g = some (own, x)) (hv : ¬ x.virt) : ∃ q, ρ i g = some (some q) := by
  rcases hk _ _ _ _ hs with ⟨q, hq⟩ | ⟨_, h2⟩
  · exact ⟨q, hq⟩
  · exact absurd h2 hv

theorem run_indexAt_sl {P : Program} {t e : Nat} {a : Addr} {n c : Nat} {k : IntKind} {z : Int} {sz : Nat} (hd : P.underlying t = some (.slice e)) (hs : ∀ w, (sizeOf e).run P w = .ok sz w) (h1 : 0 ≤ z) (h2 : z < n) (w : World) :
    (Instr.indexAt t (.slice (some a) n c) (.int k z)).run P w = .ok (.pointer (some (a.add (z.toNat * sz)))) w := by
  simp [Instr.indexAt, run_underlying hd, asIntOf, hs, h1, h2]
theorem run_indexAt_arr {P : Program} {t e : Nat} {a : Addr} {n : Nat} {k : IntKind} {z : Int} {sz : Nat} (hd : P.underlying t = some (.array n e)) (hs : ∀ w, (sizeOf e).run P w = .ok sz w) (h1 : 0 ≤ z) (h2 : z < n) (w : World) :
    (Instr.indexAt t (.pointer (some a)) (.int k z)).run P w = .ok (.pointer (some (a.add (z.toNat * sz)))) w := by
  simp [Instr.indexAt, run_underlying hd, asIntOf, hs, h1, h2, Instr.sureAddr]

theorem idxA_sound {P : Program} {T : List TI} (hT : TabOK P T) {t : Nat} {M : AH} {x ix : AV} {K : AV → Prop} {ρ : Env} (hk : Known ρ M) (hx : x.ok ρ)
    (h : idxA T M t x ix K) : ∃ v, K v ∧ v.ok ρ ∧ Ans P (Instr.indexAt t (x.c ρ) (ix.c ρ)) (v.c ρ) := by
  unfold idxA at h
  split at h
  · rename_i k z
    split at h
    · rename_i i g off n c
      split at h
      · rename_i e s1 s2 s3 ht
        obtain ⟨d, hd, hkd⟩ := hT.und ht
        obtain rfl := tkOf_slice hkd
        split at h
        · rename_i te hte
          have hs := hT.size hte
          obtain ⟨⟨h1, h2⟩, h⟩ := h
          replace h := slotA_sound h
          obtain ⟨own, x_, hsl, h⟩ := h
          split at h
          · rename_i cs
            obtain ⟨q, hq⟩ := sl_live (off := 0) (n := 0) (c := 0) hk hsl (by simp [Cont.virt])
            refine ⟨_, h, by simp [AV.ok, hq], fun w => ?_⟩
            simp only [AV.c, hq]
            rw [run_indexAt_sl hd hs h1 h2, add_addr, Nat.add_assoc]
          · rename_i kk xs co
            obtain ⟨h3, h4, h⟩ := condT_sound h
            obtain ⟨q, hq⟩ := sl_live (off := 0) (n := 0) (c := 0) hk hsl (by simp only [Cont.virt]; rintro ⟨rfl, _⟩; simp at h4)
            refine ⟨_, h, by simp [AV.ok, hq], fun w => ?_⟩
            have h5 : te.size = 1 := Nat.eq_of_beq_eq_true h3
            simp only [AV.c, hq]
            rw [run_indexAt_sl hd hs h1 h2, add_addr, h5]
            congr 4; omega
          · rename_i xs co
            obtain ⟨h3, h4, h⟩ := condT_sound h
            obtain ⟨q, hq⟩ := sl_live (off := 0) (n := 0) (c := 0) hk hsl (by simp only [Cont.virt]; rintro ⟨rfl, _⟩; simp at h4)
            refine ⟨_, h, by simp [AV.ok, hq], fun w => ?_⟩
            have h5 : te.size = 1 := Nat.eq_of_beq_eq_true h3
            simp only [AV.c, hq]
            rw [run_indexAt_sl hd hs h1 h2, add_addr, h5]
            congr 4; omega
          · rename_i sz m get co
            split at h
            · obtain ⟨h3, h4, h⟩ := condT_sound h
              obtain ⟨q, hq⟩ := sl_live (off := 0) (n := 0) (c := 0) hk hsl (by simp only [Cont.virt]; rintro ⟨rfl, _⟩; simp at h4)
              refine ⟨_, h, by simp [AV.ok, hq], fun w => ?_⟩
              have h5 : te.size = sz := Nat.eq_of_beq_eq_true h3
              simp only [AV.c, hq]
              rw [run_indexAt_sl hd hs h1 h2, add_addr, h5]
              rfl
            · exact h.elim
          · exact h.elim
        · exact h.elim
      · exact h.elim
    · rename_i i g off
      split at h
      · rename_i n e s1 s2 s3 ht
        obtain ⟨d, hd, hkd⟩ := hT.und ht
        obtain rfl := tkOf_arr hkd
        split at h
        · rename_i te hte
          have hs := hT.size hte
          obtain ⟨⟨h1, h2⟩, h⟩ := h
          replace h := slotA_sound h
          obtain ⟨own, x_, hsl, h⟩ := h
          split at h
          · rename_i cs
            obtain ⟨q, hq⟩ := sl_live (off := 0) (n := 0) (c := 0) hk hsl (by simp [Cont.virt])
            refine ⟨_, h, by simp [AV.ok, hq], fun w => ?_⟩
            simp only [AV.c, hq]
            rw [run_indexAt_arr hd hs h1 h2, add_addr, Nat.add_assoc]
          · exact h.elim
        · exact h.elim
      · exact h.elim
    · exact h.elim
  · exact h.elim

/-- What the operands are. -/
def EvR (ρ : Env) (e : Operand → AV) (v : Operand → Value) : Prop := ∀ x, v x = (e x).c ρ ∧ (e x).ok ρ

theorem next_value {P : Program} {s : Sem Value} {v : Value} (h : Ans P s v) (w : World) : (do pure (.value (← s)) : Sem Next).run P w = .ok (.value v) w := by
  simp [h w]

theorem cl_get {ρ : Env} {l : List AV} {i : Nat} {v : AV} (h : l[i]? = some v) : (AV.cl ρ l).toArray[i]? = some (v.c ρ) := by
  simp [AV.cl_eq, h]

def plF (f : Field) : Sem (Nat × Nat) := do pure (f.offset, ← sizeOf f.type)
theorem plF_run {P : Program} {T : List TI} (hT : TabOK P T) (w : World) : ∀ (l : List Field) (pl : List (Nat × Nat)), placesL T (l.map fun f => (f.offset, f.type)) = some pl → (l.mapM plF).run P w = .ok pl w
  | [], pl, h => by simp [placesL] at h; subst h; simp
  | x :: l, pl, h => by
    simp only [List.map_cons, placesL] at h
    split at h
    · rename_i ti r h1 h2
      injection h with h; subst h
      rw [List.mapM_cons]
      have h3 : (plF x).run P w = .ok (x.offset, ti.size) w := by simp [plF, hT.size h1]
      simp only [Sem.run_bind, h3, Result.andThen_ok, plF_run hT w l r h2]
      rfl
    · cases h

set_option maxHeartbeats 1000000 in
theorem pureA_sound {P : Program} {T : List TI} (hT : TabOK P T) {wr : Bool} {M : AH} {e : Operand → AV} {o : Oper} {K : AV → Prop} {ρ : Env} {v : Operand → Value} (hk : Known ρ M) (he : EvR ρ e v)
    (h : pureA T wr M e o.op K) : ∃ r, K r ∧ r.ok ρ ∧ ∀ w, (execOp v o).run P w = .ok (.value (r.c ρ)) w := by
  obtain ⟨dst, op, ty, pos, after, guard⟩ := o
  simp only at h
  unfold pureA at h
  split at h
  · rename_i x
    exact ⟨_, forceA_eq h, (he x).2, fun w => by simp [execOp, (he x).1]⟩
  · rename_i x
    exact ⟨_, forceA_eq h, (he x).2, fun w => by simp [execOp, (he x).1]⟩
  · rename_i c a b
    have hc := (he c).1
    split at h <;> rename_i hh <;> (try rw [hh] at hc)
    · exact ⟨_, forceA_eq h, (he a).2, fun w => by simp [execOp, hc, AV.c, asBool, (he a).1]⟩
    · exact ⟨_, forceA_eq h, (he b).2, fun w => by simp [execOp, hc, AV.c, asBool, (he b).1]⟩
    · rename_i x
      cases x
      · exact ⟨_, forceA_eq (h.2 rfl), (he b).2, fun w => by simp [execOp, hc, AV.c, asBool, (he b).1]⟩
      · exact ⟨_, forceA_eq (h.1 rfl), (he a).2, fun w => by simp [execOp, hc, AV.c, asBool, (he a).1]⟩
    · exact h.elim
  · rename_i x
    have hx := (he x).1
    split at h
    · rename_i f a b hh
      rw [hh] at hx
      exact ⟨_, h, by rw [← hh]; exact (he x).2, fun w => by simp [execOp, hx, AV.c]⟩
    · obtain ⟨h1, h2, a, _, ha⟩ := liveA_sound hk h
      rw [ha] at hx
      exact ⟨_, h1, h2, fun w => by simp [execOp, hx, ha]⟩
  · rename_i op t x y yt
    have hx := (he x).1
    have hy := (he y).1
    split at h
    · split at h
      · rename_i k a k' b h1 h2
        rw [h1] at hx; rw [h2] at hy
        obtain ⟨r, h3, h4, h5⟩ := binA_sound h ρ
        exact ⟨r, h3, h4, fun w => next_value (by rw [hx, hy]; exact fun w => h5 P w t x y) w⟩
      · rename_i a b h1 h2
        rw [h1] at hx; rw [h2] at hy
        obtain ⟨r, h3, h4, h5⟩ := binA_sound h ρ
        exact ⟨r, h3, h4, fun w => next_value (by rw [hx, hy]; exact fun w => h5 P w t x y) w⟩
      · split at h
        · rename_i ti ht
          obtain ⟨r, h3, h4, h5⟩ := eqA_sound hT ht hk h
          exact ⟨r, h3, h4, fun w => next_value (by rw [hx, hy]; exact h5 x y) w⟩
        · exact h.elim
    · split at h
      · rename_i k a k' b h1 h2
        rw [h1] at hx; rw [h2] at hy
        obtain ⟨r, h3, h4, h5⟩ := binA_sound h ρ
        exact ⟨r, h3, h4, fun w => next_value (by rw [hx, hy]; exact fun w => h5 P w t x y) w⟩
      · rename_i a b h1 h2
        rw [h1] at hx; rw [h2] at hy
        obtain ⟨r, h3, h4, h5⟩ := binA_sound h ρ
        exact ⟨r, h3, h4, fun w => next_value (by rw [hx, hy]; exact fun w => h5 P w t x y) w⟩
      · split at h
        · rename_i ti ht
          obtain ⟨r, h3, h4, h5⟩ := eqA_sound hT ht hk h
          exact ⟨r, h3, h4, fun w => next_value (by rw [hx, hy]; exact h5 x y) w⟩
        · exact h.elim
    · obtain ⟨r, h3, h4, h5⟩ := binA_sound h ρ
      exact ⟨r, h3, h4, fun w => next_value (by rw [hx, hy]; exact fun w => h5 P w t x y) w⟩
  · rename_i op t x
    have hx := (he x).1
    split at h <;> rename_i hh <;> (try rw [hh] at hx)
    · exact ⟨_, h, trivial, fun w => by simp [execOp, hx, AV.c, Op.unary]⟩
    · exact ⟨_, h, trivial, fun w => by simp [execOp, hx, AV.c, Op.unary]⟩
    · exact ⟨_, h, trivial, fun w => by simp [execOp, hx, AV.c, Op.unary]⟩
    · exact ⟨_, arith_sound h, trivial, fun w => by simp [execOp, hx, AV.c, Op.unary, Op.intArith]⟩
    · exact ⟨_, h, trivial, fun w => by simp [execOp, hx, AV.c, Op.unary, Op.intBits, bitF]⟩
    · exact h.elim
  · rename_i src dst x
    have hx := (he x).1
    split at h
    · rename_i k0 n ti k s1 s2 s3 h1 h2 h3
      rw [h1] at hx
      obtain ⟨d1, hd1, _⟩ := hT.und h2
      obtain ⟨d2, hd2, hk2⟩ := hT.und h3
      obtain rfl := tkOf_int hk2
      exact ⟨_, arith_sound h, trivial, fun w => by simp [execOp, hx, AV.c, convert, run_underlying hd1, run_underlying hd2, Conv.intToInt]⟩
    · exact h.elim
  · rename_i t x
    split at h
    · exact h.elim
    · rename_i ti hni ht
      obtain ⟨d, hd, hkd⟩ := hT.und ht
      refine ⟨_, h, (he x).2, fun w => ?_⟩
      have : ∀ ms, d ≠ .interface ms := by
        rintro ms rfl
        obtain ⟨k, s1, s2, s3⟩ := ti
        simp only [tkOf] at hkd
        exact hni s1 s2 s3 (by rw [← hkd])
      simp only [execOp, Instr.makeInterface, Sem.run_bind, run_underlying hd, Result.andThen_ok]
      cases d <;> first | (exact absurd rfl (this _)) | (simp [(he x).1, AV.c])
    · exact h.elim
  · rename_i fn first cap
    refine ⟨_, h, ⟨?_, ?_⟩, fun w => ?_⟩
    · rw [AV.okl_iff]; intro z hz; obtain ⟨y, _, rfl⟩ := List.mem_map.1 hz; exact (he y).2
    · rw [AV.okl_iff]; intro z hz; obtain ⟨y, _, rfl⟩ := List.mem_map.1 hz; exact (he y).2
    · have e1 : ∀ a : Array Operand, a.map v = (AV.cl ρ (a.toList.map e)).toArray := fun a => by
        apply Array.toList_inj.1
        simp only [AV.cl_eq, Array.toList_map, List.map_map]
        exact List.map_congr_left fun z _ => (he z).1
      simp [execOp, Instr.makeFunc, AV.c, e1]
  · rename_i x ix
    have hx := (he x).1
    have hox := (he x).2
    split at h
    · rename_i l hh
      rw [hh] at hx hox
      split at h
      · rename_i r hr
        simp only [AV.ok, AV.okl_iff] at hox
        exact ⟨_, h, hox _ (List.mem_of_getElem? hr), fun w => by simp [execOp, hx, AV.c, Instr.extract, AV.cl_eq, hr]⟩
      · exact h.elim
    · exact h.elim
  · rename_i t x f
    have hx := (he x).1
    have hox := (he x).2
    split at h
    · rename_i l fs s1 s2 s3 h1 h2
      rw [h1] at hx hox
      obtain ⟨d, hd, hkd⟩ := hT.und h2
      obtain ⟨fa, rfl, rfl⟩ := tkOf_struct hkd
      split at h
      · rename_i off ft hf
        split at h
        · rename_i ti hft
          simp only [List.getElem?_map, Array.getElem?_toList, Option.map_eq_some_iff] at hf
          obtain ⟨fd, hfd, hfe⟩ := hf
          injection hfe with e1 e2
          subst e1; subst e2
          obtain ⟨r, h3, h4, h5⟩ := partA_sound hT hft (ρ := ρ) hox h
          refine ⟨r, h3, h4, fun w => ?_⟩
          simp [execOp, hx, AV.c, Instr.field, run_underlying hd, hfd, asAgg, h5 w]
        · exact h.elim
      · exact h.elim
    · exact h.elim
  · rename_i t x f
    have hx := (he x).1
    split at h
    · rename_i fs s1 s2 s3 h2
      obtain ⟨d, hd, hkd⟩ := hT.und h2
      obtain ⟨fa, rfl, rfl⟩ := tkOf_struct hkd
      split at h
      · rename_i off ft hf
        split at h
        · rename_i ti hft
          simp only [List.getElem?_map, Array.getElem?_toList, Option.map_eq_some_iff] at hf
          obtain ⟨fd, hfd, hfe⟩ := hf
          injection hfe with e1 e2
          subst e1; subst e2
          obtain ⟨hz, h⟩ := condT_sound h
          have hz' : ti.size ≠ 0 := by intro e; rw [e] at hz; simp at hz
          split at h
          · rename_i i g o1 hh
            obtain ⟨h3, h4, a, ha, hc⟩ := liveA_sound hk h
            have h5 : (AV.ptr i g (o1 + fd.offset)).c ρ = .pointer (some (a.add fd.offset)) := by
              simp only [AV.c] at hc ⊢
              split at hc
              · rename_i q hq
                injection hc with hc; injection hc with hc; subst hc
                simp [add_addr, Nat.add_assoc, hq]
              · cases hc
            refine ⟨_, h3, h4, fun w => ?_⟩
            rw [h5]
            simp [execOp, hx, hh, hc, Instr.fieldAt, run_underlying hd, hfd, Instr.sureAddr, fieldPlace, hT.size hft, hz']
          · rename_i i g sz j o1 hh
            obtain ⟨h3, h4, a, ha, hc⟩ := liveA_sound hk h
            have h5 : (AV.pel i g sz j (o1 + fd.offset)).c ρ = .pointer (some (a.add fd.offset)) := by
              simp only [AV.c] at hc ⊢
              split at hc
              · rename_i q hq
                injection hc with hc; injection hc with hc; subst hc
                simp [add_addr, Nat.add_assoc, hq]
              · cases hc
            refine ⟨_, h3, h4, fun w => ?_⟩
            rw [h5]
            simp [execOp, hx, hh, hc, Instr.fieldAt, run_underlying hd, hfd, Instr.sureAddr, fieldPlace, hT.size hft, hz']
          · exact h.elim
        · exact h.elim
      · exact h.elim
    · exact h.elim
  · rename_i t x ix
    obtain ⟨r, h3, h4, h5⟩ := idxA_sound hT hk (he x).2 h
    exact ⟨r, h3, h4, fun w => next_value (by rw [(he x).1, (he ix).1]; exact h5) w⟩
  · rename_i t x ix
    have hx := (he x).1
    have hix := (he ix).1
    have hox := (he x).2
    split at h
    · rename_i l k z n el s1 s2 s3 h1 h2 h3
      rw [h1] at hx hox; rw [h2] at hix
      obtain ⟨d, hd, hkd⟩ := hT.und h3
      obtain rfl := tkOf_arr hkd
      split at h
      · rename_i ti hti
        obtain ⟨⟨a1, a2⟩, h⟩ := h
        obtain ⟨r, b1, b2, b3⟩ := partA_sound hT hti (ρ := ρ) hox h
        refine ⟨r, b1, b2, fun w => ?_⟩
        simp [execOp, hx, hix, AV.c, Instr.index, run_underlying hd, asIntOf, a1, a2, hT.size hti, b3 w]
      · exact h.elim
    · rename_i s k z s1 s2 s3 h1 h2 h3
      rw [h1] at hx; rw [h2] at hix
      obtain ⟨d, hd, hkd⟩ := hT.und h3
      obtain rfl := tkOf_str hkd
      obtain ⟨⟨a1, a2⟩, h⟩ := h
      refine ⟨_, h, trivial, fun w => ?_⟩
      have hlt : z.toNat < s.size := by omega
      have hs : s[z.toNat]? = some s[z.toNat] := by simp [getElem?_pos, hlt]
      have hg : s.data.toList.getD z.toNat 0 = s[z.toNat] := by
        rw [List.getD_eq_getElem?_getD, List.getElem?_eq_getElem (by simpa using hlt)]; rfl
      have hg' : s.data[z.toNat]?.getD 0 = s[z.toNat] := by simpa using hg
      simp [execOp, hx, hix, AV.c, Instr.index, run_underlying hd, asIntOf, a1, hs, hg']
    · exact h.elim
  · rename_i t x lo hi
    obtain ⟨r, h3, h4, h5⟩ := sliceA_sound hT (he x).2 h
    refine ⟨r, h3, h4, fun w => ?_⟩
    have e1 : ∀ o : Option Operand, o.map v = (o.map e).map (AV.c ρ) := fun o => by cases o <;> simp [(he _).1]
    simp only [execOp, Option.map_none, e1, (he x).1]
    exact next_value h5 w
  · rename_i t x lo hi mx
    obtain ⟨r, h3, h4, h5⟩ := slice3A_sound hT (he x).2 h
    refine ⟨r, h3, h4, fun w => ?_⟩
    have e1 : ∀ o : Option Operand, o.map v = (o.map e).map (AV.c ρ) := fun o => by cases o <;> simp [(he _).1]
    simp only [execOp, Option.map_some, e1, (he x).1, (he mx).1]
    exact next_value h5 w
  · rename_i x xt asserted ok
    have hx := (he x).1
    have hox := (he x).2
    split at h
    · exact h.elim
    · rename_i ti t1 v1 hni h1 h2
      rw [h2] at hx hox
      obtain ⟨d, i, z, g1, g2, g3, rfl⟩ := hT.get h1
      have hzv : ∀ w, (zeroValue asserted).run P w = .ok z w := fun w => by simp [zeroValue, typeInfo, g2, g3]
      have hd : ∀ ms, d ≠ .interface ms := by rintro ms rfl; exact hni _ _ _ rfl
      split at h
      · rename_i hb
        have hb' : t1 = asserted := Nat.eq_of_beq_eq_true hb
        refine ⟨_, h, ?_, fun w => ?_⟩
        · cases ok
          · exact hox
          · simp only [AV.ok, AV.okl, and_true]; exact hox
        · cases ok <;> cases d <;> first | (exact absurd rfl (hd _)) | simp [execOp, hx, AV.c, AV.cl, Instr.typeAssert, run_underlying g1, hb']
      · rename_i hb
        have hb' : t1 ≠ asserted := Nat.ne_of_beq_eq_false hb
        split at h
        · refine ⟨_, h z, by simp [AV.ok, AV.okl], fun w => ?_⟩
          cases d <;> first | (exact absurd rfl (hd _)) | simp [execOp, hx, AV.c, AV.cl, Instr.typeAssert, run_underlying g1, hb', hzv]
        · exact h.elim
    · rename_i ti hni h1 h2
      rw [h2] at hx
      obtain ⟨d, i, z, g1, g2, g3, rfl⟩ := hT.get h1
      have hzv : ∀ w, (zeroValue asserted).run P w = .ok z w := fun w => by simp [zeroValue, typeInfo, g2, g3]
      have hd : ∀ ms, d ≠ .interface ms := by rintro ms rfl; exact hni _ _ _ rfl
      split at h
      · refine ⟨_, h z, by simp [AV.ok, AV.okl], fun w => ?_⟩
        cases d <;> first | (exact absurd rfl (hd _)) | simp [execOp, hx, AV.c, AV.cl, Instr.typeAssert, run_underlying g1, hzv]
      · exact h.elim
    · exact h.elim
  · rename_i args tys
    split at h
    · rename_i x t hax htx
      obtain rfl : args = #[x] := by apply Array.toList_inj.1; simpa using hax
      obtain rfl : tys = #[t] := by apply Array.toList_inj.1; simpa using htx
      have hx := (he x).1
      split at h
      · rename_i el s1 s2 s3 h1 h2
        rw [h1] at hx
        obtain ⟨d, hd, hkd⟩ := hT.und h2
        obtain rfl := tkOf_slice hkd
        exact ⟨_, h, trivial, fun w => by simp [execOp, resolve, invoke, builtin, Builtin.len_, run_underlying hd, hx, AV.c, goInt]⟩
      · rename_i i g off n c el s1 s2 s3 h1 h2
        rw [h1] at hx
        obtain ⟨d, hd, hkd⟩ := hT.und h2
        obtain rfl := tkOf_slice hkd
        obtain ⟨a, ha, _⟩ := sl_c (ρ := ρ) (i := i) (g := g) (off := off) (n := n) (c := c)
        rw [ha] at hx
        exact ⟨_, h, trivial, fun w => by simp [execOp, resolve, invoke, builtin, Builtin.len_, run_underlying hd, hx, AV.c, goInt]⟩
      · rename_i s s1 s2 s3 h1 h2
        rw [h1] at hx
        obtain ⟨d, hd, hkd⟩ := hT.und h2
        obtain rfl := tkOf_str hkd
        exact ⟨_, h, trivial, fun w => by simp [execOp, resolve, invoke, builtin, Builtin.len_, run_underlying hd, hx, AV.c, goInt]⟩
      · rename_i h2
        obtain ⟨d, hd, hkd⟩ := hT.und h2
        obtain rfl := tkOf_arr hkd
        exact ⟨_, h, trivial, fun w => by simp [execOp, resolve, invoke, builtin, Builtin.len_, run_underlying hd, AV.c, goInt]⟩
      · exact h.elim
    · exact h.elim
  · rename_i args tys
    split at h
    · rename_i x y hax
      obtain rfl : args = #[x, y] := by apply Array.toList_inj.1; simpa using hax
      have hx := (he x).1
      have hy := (he y).1
      split at h
      · rename_i k a k' b h1 h2
        rw [h1] at hx; rw [h2] at hy
        refine ⟨_, h, trivial, fun w => ?_⟩
        have : (if b < a then b else a) = min a b := by split <;> omega
        simp [execOp, resolve, invoke, builtin, Builtin.min_, Builtin.min2, hx, hy, AV.c, this]
      · exact h.elim
    · exact h.elim
  · rename_i args tys
    split at h
    · rename_i x y hax
      obtain rfl : args = #[x, y] := by apply Array.toList_inj.1; simpa using hax
      have hx := (he x).1
      have hy := (he y).1
      split at h
      · rename_i k a k' b h1 h2
        rw [h1] at hx; rw [h2] at hy
        refine ⟨_, h, trivial, fun w => ?_⟩
        have : (if a < b then b else a) = max a b := by split <;> omega
        simp [execOp, resolve, invoke, builtin, Builtin.max_, Builtin.max2, hx, hy, AV.c, this]
      · exact h.elim
    · exact h.elim
  · rename_i t parts
    have hparts : (parts.map fun (i, x) => (i, v x)).toList = (parts.toList.map fun x => (x.1, e x.2)).map fun x => (x.1, x.2.c ρ) := by
      rw [Array.toList_map, List.map_map]
      exact List.map_congr_left fun z _ => by simp [(he z.2).1]
    have hpo : ∀ x ∈ parts.toList.map (fun x => (x.1, e x.2)), x.2.ok ρ := by
      intro x hx
      obtain ⟨y, _, rfl⟩ := List.mem_map.1 hx
      exact (he y.2).2
    split at h
    · rename_i fs s1 s2 z ht
      split at h
      · rename_i pl hpl
        split at h
        · rename_i cs hcs
          have hzok := hT.zero_ok ht ρ
          obtain ⟨d, hd, hkd⟩ := hT.und ht
          obtain ⟨f, rfl, rfl⟩ := tkOf_struct hkd
          obtain ⟨zv, hz1, hz2⟩ := hT.zero ht
          obtain ⟨k1, k2⟩ := fillL_sound (ρ := ρ) hcs hzok hpo zv.cells (hz2 ρ)
          refine ⟨_, h, k1, fun w => ?_⟩
          have hmap : (f.mapM plF).run P w = .ok pl.toArray w := by
            rw [Array.mapM_eq_mapM_toList]
            simp [plF_run hT w _ _ hpl]
          have hp2 : Instr.fill (pl.toArray[·]?) zv.cells (parts.map fun (i, x) => (i, v x)).toList = some (AV.cl ρ cs).toArray := by
            rw [hparts]; simpa using k2
          have hrun : (Instr.build t (parts.map fun (i, x) => (i, v x))).run P w = .ok ((AV.agg cs).c ρ) w := by
            unfold Instr.build
            simp only [Sem.run_bind, hz1 w, Result.andThen_ok, run_underlying hd]
            rw [show (f.mapM fun f => do pure (f.offset, ← sizeOf f.type) : Sem (Array (Nat × Nat))) = f.mapM plF from rfl, hmap]
            simp only [Result.andThen_ok, hp2]
            rfl
          simp only [execOp, Sem.run_bind, hrun, Result.andThen_ok]
          rfl
        · exact h.elim
      · exact h.elim
    · rename_i n el s1 s2 z ht
      split at h
      · rename_i te hte
        split at h
        · rename_i cs hcs
          have hzok := hT.zero_ok ht ρ
          obtain ⟨d, hd, hkd⟩ := hT.und ht
          obtain rfl := tkOf_arr hkd
          obtain ⟨zv, hz1, hz2⟩ := hT.zero ht
          obtain ⟨k1, k2⟩ := fillL_sound (ρ := ρ) hcs hzok hpo zv.cells (hz2 ρ)
          refine ⟨_, h, k1, fun w => ?_⟩
          have hp2 : Instr.fill (fun i => some (i * te.size, te.size)) zv.cells (parts.map fun (i, x) => (i, v x)).toList = some (AV.cl ρ cs).toArray := by
            rw [hparts]; exact k2
          have hrun : (Instr.build t (parts.map fun (i, x) => (i, v x))).run P w = .ok ((AV.agg cs).c ρ) w := by
            unfold Instr.build
            simp only [Sem.run_bind, hz1 w, Result.andThen_ok, run_underlying hd, hT.size hte w, hp2]
            rfl
          simp only [execOp, Sem.run_bind, hrun, Result.andThen_ok]
          rfl
        · exact h.elim
      · exact h.elim
    · exact h.elim
  · rename_i args tys
    split at h
    · rename_i x t hax htx
      obtain rfl : args = #[x] := by apply Array.toList_inj.1; simpa using hax
      obtain rfl : tys = #[t] := by apply Array.toList_inj.1; simpa using htx
      have hx := (he x).1
      split at h
      · rename_i s1 s2 s3 s4 h1 h2
        rw [h1] at hx
        obtain ⟨d, hd, hkd⟩ := hT.und h2
        obtain rfl := tkOf_slice hkd
        exact ⟨_, h, trivial, fun w => by simp [execOp, resolve, invoke, builtin, Builtin.cap_, run_underlying hd, hx, AV.c, goInt]⟩
      · rename_i i g off n c s1 s2 s3 s4 h1 h2
        rw [h1] at hx
        obtain ⟨d, hd, hkd⟩ := hT.und h2
        obtain rfl := tkOf_slice hkd
        obtain ⟨a, ha, _⟩ := sl_c (ρ := ρ) (i := i) (g := g) (off := off) (n := n) (c := c)
        rw [ha] at hx
        exact ⟨_, h, trivial, fun w => by simp [execOp, resolve, invoke, builtin, Builtin.cap_, run_underlying hd, hx, AV.c, goInt]⟩
      · exact h.elim
    · exact h.elim
  · exact h.elim

end Go.Proofs.Ytaioclggifdnhaa
