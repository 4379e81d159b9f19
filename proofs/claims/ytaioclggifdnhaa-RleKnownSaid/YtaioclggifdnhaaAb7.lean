/- New memory: variables, literals, make. -/
import Derived.Test.YtaioclggifdnhaaAb6
import Derived.Great.BuildSlice
import Derived.Laws.MakeOwn
set_option linter.unusedVariables false
set_option linter.unusedSimpArgs false
open Go.RowKit
namespace Go.Proofs.Ytaioclggifdnhaa

/-- A new array of known cells. -/
theorem alloc_sound {ρ : Env} {M : AH} {w w1 : World} {x : Cont} {c : Array Value} {e : TypeId} (h : Sim ρ M w) (hw1 : w1.heap = w.heap) (hos : w1.os = w.os) (htape : w1.tape = w.tape) (hout : w1.output = w.output)
    (hsize : x.size ≤ c.size) (hat : ∀ k v, x.at k = some v → v.ok ρ ∧ c[k]? = some (v.c ρ)) (hxr : x.row = true := by rfl) :
    Sim (upE ρ M.length 0 (some (w.heap.size, 0))) (M ++ [.one true 0 x]) (w1.alloc (.cells c e)) ∧ Ext ρ M w (upE ρ M.length 0 (some (w.heap.size, 0))) (M ++ [.one true 0 x]) (w1.alloc (.cells c e)) := by
  have hun : (ρ M.length 0).isSome = false := by
    cases hh : (ρ M.length 0).isSome with
    | false => rfl
    | true => exact absurd (h.dom _ _ hh) (Nat.lt_irrefl _)
  have hsz : w1.heap.size = w.heap.size := by rw [hw1]
  refine sim_new h (fun b hb => ?_) (by simp [hw1]) hos htape hout (.inl ⟨w.heap.size, 0, rfl, Nat.le_refl _, .mk' hxr ⟨c, e, (0, 0), ?_, by omega, fun k v hv => ?_, fun _ => rfl⟩⟩)
  · rw [Below.heap_alloc w1 _ b (by omega), hw1]
  · rw [← hsz]; exact heap_alloc_new w1 _
  · have h1 := hat k v hv
    refine ⟨AV.ok_ext (upE_ext hun) v h1.1, ?_⟩
    rw [AV.c_ext (upE_ext hun) v h1.1, Nat.zero_add]
    exact h1.2

theorem ptr_new {ρ : Env} {M : AH} {b : Nat} : (AV.ptr M.length 0 0).c (upE ρ M.length 0 (some (b, 0))) = .pointer (some ⟨b, 0, none⟩) ∧ (AV.ptr M.length 0 0).ok (upE ρ M.length 0 (some (b, 0))) := by
  simp [AV.c, AV.ok, upE_same]
theorem sl_new {ρ : Env} {i g b n c : Nat} : (AV.sl i g 0 n c).c (upE ρ i g (some (b, 0))) = .slice (some ⟨b, 0, none⟩) n c ∧ (AV.sl i g 0 n c).ok (upE ρ i g (some (b, 0))) := by
  simp [AV.c, AV.ok, upE_same]

def allocA (T : List TI) (M : AH) (t : Nat) (K : AV → AH → Prop) : Prop :=
  match T[t]? with
  | some ti => K (.ptr M.length 0 0) (M ++ [.one true 0 (.cells ti.zero)])
  | none => False

theorem allocA_sound {P : Program} {T : List TI} (hT : TabOK P T) {M : AH} {t : Nat} {K : AV → AH → Prop} {ρ : Env} {w : World} (hs : Sim ρ M w)
    (h : allocA T M t K) : ∃ v M' ρ' w', (Instr.alloc t true (.tuple #[])).run P w = .ok (v.c ρ') w' ∧ K v M' ∧ v.ok ρ' ∧ Sim ρ' M' w' ∧ Ext ρ M w ρ' M' w' := by
  unfold allocA at h
  split at h
  · rename_i ti ht
    obtain ⟨z, hz1, hz2⟩ := hT.zero ht
    obtain ⟨h1, h2⟩ := alloc_sound (x := .cells ti.zero) (c := z.cells) (e := t) hs rfl rfl rfl rfl
      (by rw [← Array.length_toList, hz2 ρ, AV.cl_eq]; simp [Cont.size]) (fun k v hv => by
        refine ⟨(AV.okl_iff ρ _).1 (hT.zero_ok ht ρ) v (List.mem_of_getElem? hv), ?_⟩
        rw [← Array.getElem?_toList, hz2 ρ, AV.cl_eq, List.getElem?_map, show ti.zero[k]? = some v from hv]; rfl)
    refine ⟨_, _, _, _, ?_, h, ptr_new.2, h1, h2⟩
    rw [ptr_new.1]
    simp [Instr.alloc, hz1, newVar, newRow]
  · exact h.elim

def boxA (M : AH) (v : AV) (K : AV → AH → Prop) : Prop :=
  condT (v.parts.all AV.one) (K (.ptr M.length 0 0) (M ++ [.one true 0 (.cells v.parts)]))

theorem boxA_sound {P : Program} {M : AH} {t : Nat} {v : AV} {K : AV → AH → Prop} {ρ : Env} {w : World} (hs : Sim ρ M w) (hv : v.ok ρ)
    (h : boxA M v K) : ∃ r M' ρ' w', (Instr.box t (v.c ρ)).run P w = .ok (r.c ρ') w' ∧ K r M' ∧ r.ok ρ' ∧ Sim ρ' M' w' ∧ Ext ρ M w ρ' M' w' := by
  unfold boxA at h
  replace h := condT_sound h
  obtain ⟨hone, h⟩ := h
  have hr : ∀ x, v ≠ .raw x := by rintro x rfl; simp [AV.parts, AV.one] at hone
  have hc := AV.parts_c ρ v hr
  obtain ⟨h1, h2⟩ := alloc_sound (x := .cells v.parts) (c := (v.c ρ).cells) (e := t) hs rfl rfl rfl rfl
      (by rw [← Array.length_toList, hc, AV.cl_eq]; simp [Cont.size]) (fun k u hu => by
        refine ⟨(AV.okl_iff ρ _).1 (AV.parts_ok hv) u (List.mem_of_getElem? hu), ?_⟩
        rw [← Array.getElem?_toList, hc, AV.cl_eq, List.getElem?_map, show v.parts[k]? = some u from hu]; rfl)
  refine ⟨_, _, _, _, ?_, h, ptr_new.2, h1, h2⟩
  rw [ptr_new.1]
  simp [Instr.box, newVar, newRow]

def sameKb (k k' : IntKind) : Bool :=
  match k, k' with
  | .i8, .i8 | .i16, .i16 | .i32, .i32 | .i64, .i64 | .u8, .u8 | .u16, .u16 | .u32, .u32 | .u64, .u64 => true
  | _, _ => false
theorem sameKb_eq {k k' : IntKind} (h : sameKb k k' = true) : k = k' := by
  cases k <;> cases k' <;> first | rfl | cases h
def intsOf (k : IntKind) : List AV → Option (List Int)
  | [] => some []
  | .int k' n :: l => match sameKb k k', intsOf k l with
    | true, some r => some (n :: r)
    | _, _ => none
  | _ => none
def boolsOf : List AV → Option (List Bool)
  | [] => some []
  | v :: l => match v.asB, boolsOf l with
    | some b, some r => some (b :: r)
    | _, _ => none
theorem intsOf_get {k : IntKind} : ∀ {l : List AV} {r : List Int}, intsOf k l = some r → r.length = l.length ∧ ∀ j : Nat, l[j]? = (r[j]?).map (AV.int k)
  | [], r, h => by simp [intsOf] at h; subst h; simp
  | v :: l, r, h => by
    cases v <;> simp [intsOf] at h
    split at h
    · rename_i h1 h2
      injection h with h; subst h
      obtain ⟨h3, h4⟩ := intsOf_get h2
      refine ⟨by simp [h3], fun j => ?_⟩
      cases j with
      | zero => simp [sameKb_eq h1]
      | succ j => simpa using h4 j
    · cases h
theorem boolsOf_get (ρ : Env) : ∀ {l : List AV} {r : List Bool}, boolsOf l = some r → r.length = l.length ∧ ∀ (j : Nat) b, r[j]? = some b → ∃ v, l[j]? = some v ∧ v.c ρ = .bool b ∧ v.parts = [v]
  | [], r, h => by simp [boolsOf] at h; subst h; simp
  | v :: l, r, h => by
    simp only [boolsOf] at h
    split at h
    · rename_i b r' h1 h2
      injection h with h; subst h
      obtain ⟨h3, h4⟩ := boolsOf_get ρ h2
      refine ⟨by simp [h3], fun j b' hb => ?_⟩
      cases j with
      | zero => simp at hb; subst hb; exact ⟨v, rfl, AV.asB_c ρ h1, by cases v <;> simp_all [AV.asB, AV.parts]⟩
      | succ j => simpa using h4 j b' (by simpa using hb)
    · cases h

/-- What a literal's array holds. -/
def litCont (ti : TI) (vs : List AV) : Option Cont :=
  match ti.size with
  | 0 => none
  | 1 => match ti.k with
    | .int k => (intsOf k vs).map fun xs => .ints k xs vs.length
    | .bool => (boolsOf vs).map fun xs => .bools xs vs.length
    | _ => some (.cells (vs.flatMap AV.parts))
  | s => some (.tab s vs.length (fun j => (vs.map AV.parts).getD j []) vs.length)

theorem litCont_row {ti : TI} {vs : List AV} {x : Cont} (h : litCont ti vs = some x) : x.row = true := by
  unfold litCont at h
  split at h
  · cases h
  · split at h
    · obtain ⟨_, _, rfl⟩ := Option.map_eq_some_iff.1 h; rfl
    · obtain ⟨_, _, rfl⟩ := Option.map_eq_some_iff.1 h; rfl
    · injection h with h; subst h; rfl
  · injection h with h; subst h; rfl
theorem litCont_at {ti : TI} {vs : List AV} {x : Cont} (ρ : Env) (h : litCont ti vs = some x) (hone : vs.all (fun v => v.parts.all AV.one && Nat.beq v.parts.length ti.size) = true) (hok : AV.okl ρ vs) :
    0 < ti.size ∧ x.size = vs.length * ti.size ∧ ∀ k v, x.at k = some v → v.ok ρ ∧ ((vs.map (AV.c ρ)).flatMap fun u => u.cells.toList)[k]? = some (v.c ρ) := by
  have hp : ∀ v ∈ vs, v.parts.all AV.one = true ∧ v.parts.length = ti.size := fun v hv => by
    have := List.all_eq_true.1 hone v hv
    simp only [Bool.and_eq_true] at this
    exact ⟨this.1, Nat.eq_of_beq_eq_true this.2⟩
  have hcells : ∀ v ∈ vs, (v.c ρ).cells.toList = AV.cl ρ v.parts := fun v hv => AV.parts_c ρ v (by rintro x rfl; have := (hp _ hv).1; simp [AV.parts, AV.one] at this)
  have hsz : ∀ u ∈ vs.map (AV.c ρ), u.cells.size = ti.size := fun u hu => by
    obtain ⟨v, hv, rfl⟩ := List.mem_map.1 hu
    rw [← Array.length_toList, hcells v hv, AV.cl_eq, List.length_map, (hp v hv).2]
  have hpos : 0 < ti.size := by
    unfold litCont at h
    split at h
    · cases h
    · omega
    · rename_i h0 h1; exact Nat.pos_of_ne_zero (fun e => h0 e)
  have key : ∀ k u p, vs[k / ti.size]? = some u → u.parts[k % ti.size]? = some p → p.ok ρ ∧ ((vs.map (AV.c ρ)).flatMap fun u => u.cells.toList)[k]? = some (p.c ρ) := by
    intro k u p hu hpp
    have hm := List.mem_of_getElem? hu
    refine ⟨(AV.okl_iff ρ _).1 (AV.parts_ok ((AV.okl_iff ρ _).1 hok u hm)) p (List.mem_of_getElem? hpp), ?_⟩
    rw [Go.Great.flat_get hpos _ hsz, List.getElem?_map, hu]
    simp only [Option.map_some, Option.bind_some]
    rw [← Array.getElem?_toList, hcells u hm, AV.cl_eq, List.getElem?_map, hpp]; rfl
  refine ⟨hpos, ?_⟩
  unfold litCont at h
  split at h
  · cases h
  · rename_i h1
    split at h
    · rename_i k _
      simp only [Option.map_eq_some_iff] at h
      obtain ⟨xs, hxs, rfl⟩ := h
      obtain ⟨g1, g2⟩ := intsOf_get hxs
      refine ⟨by simp [Cont.size, h1], fun j v hv => ?_⟩
      simp only [Cont.at] at hv
      rw [← g2 j] at hv
      refine key j v v (by simpa [h1] using hv) ?_
      rw [g2 j, Option.map_eq_some_iff] at hv
      obtain ⟨z, _, rfl⟩ := hv
      simp [AV.parts, h1, Nat.mod_one]
    · simp only [Option.map_eq_some_iff] at h
      obtain ⟨xs, hxs, rfl⟩ := h
      obtain ⟨g1, g2⟩ := boolsOf_get ρ hxs
      refine ⟨by simp [Cont.size, h1], fun j v hv => ?_⟩
      simp only [Cont.at, Option.map_eq_some_iff] at hv
      obtain ⟨b, hb, rfl⟩ := hv
      obtain ⟨u, hu, hc, hpu⟩ := g2 j b hb
      have := key j u u (by simpa [h1] using hu) (by rw [hpu, h1]; simp [Nat.mod_one])
      exact ⟨trivial, by rw [this.2, hc]; rfl⟩
    · injection h with h; subst h
      have e : (vs.map (AV.c ρ)).flatMap (fun u => u.cells.toList) = AV.cl ρ (vs.flatMap AV.parts) := by
        rw [AV.cl_eq, List.flatMap_map, List.map_flatMap]
        have : ∀ l : List AV, (∀ v ∈ l, (v.c ρ).cells.toList = AV.cl ρ v.parts) → l.flatMap (fun v => (v.c ρ).cells.toList) = l.flatMap fun v => v.parts.map (AV.c ρ) := by
          intro l hl
          induction l with
          | nil => rfl
          | cons v l ih => rw [List.flatMap_cons, List.flatMap_cons, hl v List.mem_cons_self, AV.cl_eq, ih fun u hu => hl u (List.mem_cons_of_mem _ hu)]
        exact this vs hcells
      have hlen1 : (vs.flatMap AV.parts).length = vs.length := by
        have : ∀ l : List AV, (∀ v ∈ l, v.parts.length = 1) → (l.flatMap AV.parts).length = l.length := by
          intro l hl
          induction l with
          | nil => rfl
          | cons v l ih => simp [List.flatMap_cons, hl v List.mem_cons_self, ih fun u hu => hl u (List.mem_cons_of_mem _ hu)]; omega
        exact this vs fun v hv => by rw [(hp v hv).2, h1]
      refine ⟨by simp only [Cont.size, hlen1, h1, Nat.mul_one], fun j v hv => ?_⟩
      have hv' : (vs.flatMap AV.parts)[j]? = some v := hv
      refine ⟨?_, by rw [e, AV.cl_eq, List.getElem?_map, hv']; rfl⟩
      obtain ⟨u, hu, hvu⟩ := List.mem_flatMap.1 (List.mem_of_getElem? hv')
      exact (AV.okl_iff ρ _).1 (AV.parts_ok ((AV.okl_iff ρ _).1 hok u hu)) v hvu
  · injection h with h; subst h
    refine ⟨rfl, fun j v hv => ?_⟩
    simp only [Cont.at] at hv
    split at hv
    · rename_i hlt
      have hd : j / ti.size < vs.length := (Nat.div_lt_iff_lt_mul hpos).2 hlt
      have hu : vs[j / ti.size]? = some vs[j / ti.size] := List.getElem?_eq_getElem hd
      rw [List.getD_eq_getElem?_getD, List.getElem?_map, hu] at hv
      exact key j _ v hu (by simpa using hv)
    · cases hv

def buildSliceA (T : List TI) (M : AH) (t len : Nat) (idx : List Nat) (vs : List AV) (K : AV → AH → Prop) : Prop :=
  match T[t]? with
  | some ⟨.slice el, _, _, _⟩ => match T[el]? with
    | some te => condT (idx == List.range len && Nat.beq vs.length len && Nat.ble (len * te.size) 16777216 && Nat.beq te.zero.length te.size && vs.all (fun v => v.parts.all AV.one && Nat.beq v.parts.length te.size)) (match litCont te vs with
      | some x => K (.sl M.length 0 0 len len) (M ++ [.one true 0 x])
      | none => False)
    | none => False
  | _ => False

theorem flat_length {s : Nat} : ∀ (l : List Value), (∀ u ∈ l, u.cells.size = s) → (l.flatMap fun u => u.cells.toList).length = l.length * s
  | [], _ => by simp
  | u :: l, h => by
    rw [List.flatMap_cons, List.length_append, flat_length l fun v hv => h v (List.mem_cons_of_mem _ hv), List.length_cons, Nat.add_mul, Array.length_toList, h u List.mem_cons_self]
    omega

theorem buildSliceA_sound {P : Program} {T : List TI} (hT : TabOK P T) {M : AH} {t len : Nat} {idx : List Nat} {vs : List AV} {K : AV → AH → Prop} {ρ : Env} {w : World} (hs : Sim ρ M w) (hok : AV.okl ρ vs)
    (h : buildSliceA T M t len idx vs K) : ∃ r M' ρ' w', (Instr.buildSlice t len (idx.zip (vs.map (AV.c ρ))).toArray).run P w = .ok (r.c ρ') w' ∧ K r M' ∧ r.ok ρ' ∧ Sim ρ' M' w' ∧ Ext ρ M w ρ' M' w' := by
  unfold buildSliceA at h
  split at h
  · rename_i el s1 s2 s3 ht
    obtain ⟨d, hd, hkd⟩ := hT.und ht
    obtain rfl := tkOf_slice hkd
    split at h
    · rename_i te hte
      replace h := condT_sound h
      obtain ⟨hb, h⟩ := h
      simp only [Bool.and_eq_true, beq_iff_eq] at hb
      obtain ⟨⟨⟨⟨hidx, hlen⟩, h24⟩, hzl⟩, hall⟩ := hb
      have hlen' : vs.length = len := Nat.eq_of_beq_eq_true hlen
      have h24' : len * te.size ≤ 16777216 := by simpa using h24
      have hzl' : te.zero.length = te.size := Nat.eq_of_beq_eq_true hzl
      split at h
      · rename_i x hx
        obtain ⟨hpos, hsz, hat⟩ := litCont_at ρ hx hall hok
        obtain ⟨d2, ie, z, e1, e2, e3, rfl⟩ := hT.get hte
        simp only at hpos hsz h24' hzl' hall
        have hcs : ∀ u ∈ vs.map (AV.c ρ), u.cells.size = ie.size := fun u hu => by
          obtain ⟨v, hv, rfl⟩ := List.mem_map.1 hu
          have := List.all_eq_true.1 hall v hv
          simp only [Bool.and_eq_true] at this
          rw [← Array.length_toList, AV.parts_c ρ v (by rintro y rfl; have := this.1; simp [AV.parts, AV.one] at this), AV.cl_eq, List.length_map]
          exact Nat.eq_of_beq_eq_true this.2
        have hzs : z.cells.size = ie.size := by simpa using hzl'
        subst hlen'
        have hzip : (idx.zip (vs.map (AV.c ρ))) = ((vs.map (AV.c ρ)).zipIdx 0).map fun x => (x.2, x.1) := by
          subst hidx
          apply List.ext_getElem?
          intro j
          simp only [List.getElem?_map, List.getElem?_zipIdx, List.getElem?_zip_eq_some]
          by_cases hj : j < vs.length
          · simp [List.zip, hj]
          · simp [List.zip, hj, List.getElem?_eq_none (Nat.le_of_not_lt hj)]
        have hw0 := fun c0 => Go.Great.fill_whole hpos (vs.map (AV.c ρ)) c0 hcs
        have hfl := flat_length (vs.map (AV.c ρ)) hcs
        rw [List.length_map] at hfl
        obtain ⟨h1, h2⟩ := alloc_sound (x := x) (c := ((vs.map (AV.c ρ)).flatMap fun u => u.cells.toList).toArray) (e := el) hs rfl rfl rfl rfl
          (by rw [hsz, List.size_toArray, hfl]; exact Nat.le_refl _) (fun k v hv => by have := hat k v hv; exact ⟨this.1, by simpa using this.2⟩) (litCont_row (by assumption))
        by_cases hl0 : vs.length = 0
        · have : vs = [] := List.eq_nil_of_length_eq_zero hl0
          subst this
          refine ⟨_, _, _, _, ?_, h, sl_new.2, h1, h2⟩
          rw [sl_new.1]
          simp [Instr.buildSlice, run_underlying hd, sizeOf, typeInfo, e2, newRow, Instr.fill]
          have : (Array.map (fun _ => (default : Value)) (Array.range 0)) = #[] := by apply Array.eq_empty_of_size_eq_zero; simp
          rw [this]
        · have hfill := hw0 ((Array.range (vs.length * ie.size)).map (z.cells[· % z.cells.size]!)) (by simp)
          have hrun := run_buildSlice (P := P) w t el vs.length (idx.zip (vs.map (AV.c ρ))).toArray _ ie z hd e2 e3 (by omega) (by
            intro h0
            rcases Nat.mul_eq_zero.1 h0 with h0 | h0
            · exact hl0 h0
            · omega) (by rw [List.toList_toArray, hzip]; exact hfill)
          exact ⟨_, _, _, _, by rw [sl_new.1]; exact hrun, h, sl_new.2, h1, h2⟩
      · exact h.elim
    · exact h.elim
  · exact h.elim

/-- What a new array of zeros holds. -/
def makeCont (ti : TI) (len cap : Nat) : Option Cont :=
  match ti.size, ti.k, ti.zero with
  | 1, .int k, [.int k' 0] => match sameKb k k' with
    | true => some (.ints k (List.replicate len 0) cap)
    | false => none
  | 1, .bool, [.ff] => some (.bools (List.replicate len false) cap)
  | s, _, z => match Nat.beq z.length s, Nat.blt 0 s with
    | true, true => some (.tab s len (fun _ => z) cap)
    | _, _ => none

theorem makeCont_row {ti : TI} {len cap : Nat} {x : Cont} (h : makeCont ti len cap = some x) : x.row = true := by
  unfold makeCont at h
  split at h
  · split at h
    · injection h with h; subst h; rfl
    · cases h
  · injection h with h; subst h; rfl
  · split at h
    · injection h with h; subst h; rfl
    · cases h
theorem rep_get {α : Type} {n j : Nat} {a z : α} (h : (List.replicate n a)[j]? = some z) : j < n ∧ a = z := by
  rw [List.getElem?_replicate] at h
  split at h
  · exact ⟨‹_›, Option.some.inj h⟩
  · cases h

theorem makeCont_at {ti : TI} {len cap : Nat} {x : Cont} (h : makeCont ti len cap = some x) (hlc : len ≤ cap) :
    0 < ti.size ∧ ti.zero.length = ti.size ∧ x.size = cap * ti.size ∧ ∀ k v, x.at k = some v → k < cap * ti.size ∧ (∃ u, ti.zero[k % ti.size]? = some u ∧ ∀ ρ, u.c ρ = v.c ρ ∧ (u.ok ρ → v.ok ρ)) := by
  unfold makeCont at h
  split at h
  · rename_i k k' h1 h2 h3
    split at h
    · rename_i hk
      injection h with h; subst h
      refine ⟨by omega, by rw [h1, h3]; rfl, by simp [Cont.size, h1], fun j v hv => ?_⟩
      simp only [Cont.at, Option.map_eq_some_iff] at hv
      obtain ⟨z, hz, rfl⟩ := hv
      obtain ⟨hj, rfl⟩ := rep_get hz
      refine ⟨by rw [h1]; omega, .int k' 0, by simp [h1, h3, Nat.mod_one], fun ρ => ⟨by rw [sameKb_eq hk], fun _ => trivial⟩⟩
    · cases h
  · rename_i h1 h2 h3
    injection h with h; subst h
    refine ⟨by omega, by rw [h1, h3]; rfl, by simp [Cont.size, h1], fun j v hv => ?_⟩
    simp only [Cont.at, Option.map_eq_some_iff] at hv
    obtain ⟨z, hz, rfl⟩ := hv
    obtain ⟨hj, rfl⟩ := rep_get hz
    exact ⟨by rw [h1]; omega, .ff, by simp [h1, h3, Nat.mod_one], fun ρ => ⟨rfl, fun _ => trivial⟩⟩
  · split at h
    · rename_i hz hs
      injection h with h; subst h
      have hz' : ti.zero.length = ti.size := Nat.eq_of_beq_eq_true hz
      have hs' : 0 < ti.size := by simpa using hs
      refine ⟨hs', hz', rfl, fun j v hv => ?_⟩
      simp only [Cont.at] at hv
      split at hv
      · exact ⟨Nat.lt_of_lt_of_le ‹_› (Nat.mul_le_mul_right _ hlc), v, hv, fun ρ => ⟨rfl, id⟩⟩
      · cases hv
    · cases h

def makeSliceA (T : List TI) (M : AH) (t : Nat) (l c : AV) (K : AV → AH → Prop) : Prop :=
  match l, c with
  | .int _ l, .int _ c => match T[t]? with
    | some ⟨.slice el, _, _, _⟩ => match T[el]? with
      | some te => (0 ≤ l ∧ l ≤ c ∧ (te.bytes : Int) * c ≤ 140737488355328 ∧ c ≤ 140737488355328) ∧ match makeCont te l.toNat c.toNat with
        | some x => K (.sl M.length 0 0 l.toNat c.toNat) (M ++ [.one true 0 x])
        | none => False
      | none => False
    | _ => False
  | _, _ => False

theorem makeSliceA_sound {P : Program} {T : List TI} (hT : TabOK P T) {M : AH} {t : Nat} {l c : AV} {K : AV → AH → Prop} {ρ : Env} {w : World} (hs : Sim ρ M w)
    (h : makeSliceA T M t l c K) : ∃ r M' ρ' w', (Instr.makeSlice t (l.c ρ) (c.c ρ)).run P w = .ok (r.c ρ') w' ∧ K r M' ∧ r.ok ρ' ∧ Sim ρ' M' w' ∧ Ext ρ M w ρ' M' w' := by
  unfold makeSliceA at h
  split at h
  · rename_i kl l kc c
    split at h
    · rename_i el s1 s2 s3 ht
      obtain ⟨d, hd, hkd⟩ := hT.und ht
      obtain rfl := tkOf_slice hkd
      split at h
      · rename_i te hte
        obtain ⟨⟨h0, hlc, hb, h63⟩, h⟩ := h
        split at h
        · rename_i x hx
          obtain ⟨hpos, hzl, hsz, hat⟩ := makeCont_at hx (by omega)
          have hzok := hT.zero_ok hte ρ
          obtain ⟨d2, ie, z, e1, e2, e3, rfl⟩ := hT.get hte
          simp only at hpos hzl hsz hat hb hzok
          have hzs : z.cells.size = ie.size := by simpa using hzl
          have hrun := run_make (P := P) w t el ie z hd e2 e3 kl kc l c h0 hlc (by omega) (by omega)
          obtain ⟨h1, h2⟩ := alloc_sound (x := x) (c := madeCells z.cells (c.toNat * ie.size)) (e := el) hs rfl rfl rfl rfl (by rw [hsz, size_madeCells]; exact Nat.le_refl _) (fun k v hv => by
            obtain ⟨hk, u, hu, hc⟩ := hat k v hv
            refine ⟨(hc ρ).2 ((AV.okl_iff ρ _).1 hzok u (List.mem_of_getElem? hu)), ?_⟩
            have hm : k % ie.size < z.cells.size := by rw [hzs]; exact Nat.mod_lt _ hpos
            have hu' : ofS z.cells[k % ie.size] = u := by
              rw [List.getElem?_map, Array.getElem?_toList, Array.getElem?_eq_getElem hm] at hu
              simpa using hu
            rw [← (hc ρ).1, ← hu', ofS_c]
            simp only [madeCells, Array.getElem?_map, Array.getElem?_range, hk, if_true, Option.map_some, hzs]
            rw [getElem!_pos z.cells _ hm]) (makeCont_row (by assumption))
          exact ⟨_, _, _, _, by rw [sl_new.1]; exact hrun, h, sl_new.2, h1, h2⟩
        · exact h.elim
      · exact h.elim
    · exact h.elim
  · exact h.elim

end Go.Proofs.Ytaioclggifdnhaa
