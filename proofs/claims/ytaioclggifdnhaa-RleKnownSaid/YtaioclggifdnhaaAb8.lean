/- append, copy. -/
import Derived.Test.YtaioclggifdnhaaAb7
set_option linter.unusedVariables false
set_option linter.unusedSimpArgs false
open Go.RowKit
namespace Go.Proofs.Ytaioclggifdnhaa

section
variable {P : Program} {T : List TI} {ρ : Env} {M : AH} {w : World}

theorem run_append_stay {t tx ty e : TypeId} {i : TypeInfo} (ht : P.underlying t = some (.slice e)) (hi : P.info? e = some i) {x : Value} {news : List Value} (hs : Src P i.size tx x 0 news w) :
    (Builtin.append_ #[t, tx] ty #[.slice none 0 0, x]).run P w = .ok (.slice none 0 0) w := by
  rcases hs.kind with ⟨e', hk⟩ | hk <;> simp [Builtin.append_, run_underlying ht, run_underlying hk, sizeOf, typeInfo, hi, hs.len, hs.cells]

theorem run_append_in {t tx ty e : TypeId} {i : TypeInfo} (ht : P.underlying t = some (.slice e)) (hi : P.info? e = some i) {b off n c m : Nat} {x : Value} {news : List Value} (hs : Src P i.size tx x m news w) (hroom : n + m ≤ c)
    {cur : Array Value} {e' : TypeId} (hb : w.heap[b]? = some (.cells cur e' (0, 0))) (hfit : off + n * i.size + news.length ≤ cur.size) :
    (Builtin.append_ #[t, tx] ty #[.slice (some ⟨b, off, none⟩) n c, x]).run P w = .ok (.slice (some ⟨b, off, none⟩) (n + m) c)
      (w.setRow b (cur.toList.take (off + n * i.size) ++ news ++ cur.toList.drop (off + n * i.size + news.length)).toArray) := by
  have hst := run_storeCells_at P b (off + n * i.size) e' news 0 cur w hb (by omega) hs.one
  simp only [Nat.add_zero] at hst
  rcases hs.kind with ⟨e', hk⟩ | hk <;> simp [Builtin.append_, run_underlying ht, run_underlying hk, sizeOf, typeInfo, hi, hs.len, hroom, hs.cells, add_addr, hst]

/-- A new array behind an append: the cells known, then zeros. -/
theorem grown_cells {cs : List Value} {z : Array Value} {k sz c : Nat} (hz : z.size = sz) (hl : cs.length = k * sz) (hk : k ≤ c) : c * sz ≤ (cs.toArray ++ Builtin.zeroCells z (c - k)).size := by
  simp only [Array.size_append, List.size_toArray, size_zeroCells, hz, hl, ← Nat.add_mul]
  exact Nat.mul_le_mul_right _ (by omega)
theorem grown_get {cs : List Value} {z : Array Value} {j : Nat} {v : Value} (h : cs[j]? = some v) : (cs.toArray ++ z)[j]? = some v := by
  have := (List.getElem?_eq_some_iff.1 h).1
  rw [Array.getElem?_append_left (by simpa using this)]
  simpa using h

theorem append_new (hs : Sim ρ M w) {t tx ty e : TypeId} {ie : TypeInfo} {z : Value} (ht : P.underlying t = some (.slice e)) (hi : P.info? e = some ie) (hz : ie.zero = some z) (hzs : z.cells.size = ie.size)
    {x : Value} {m : Nat} {news : List Value} (hsrc : Src P ie.size tx x m news w) (hb : m * ie.bytes ≤ 140737488355328) (h63 : (m : Int) ≤ 9223372036854775807)
    (xc : Nat → Cont) (hsz : ∀ c, (xc c).size = c * ie.size) (hat : ∀ c k v, (xc c).at k = some v → v.ok ρ ∧ news[k]? = some (v.c ρ)) (hv : m = 0 → (xc 0).virt) (hxr : ∀ c, (xc c).row = true := by intros; rfl) :
    ∃ c, m ≤ c ∧ ∃ ρ' w', (Builtin.append_ #[t, tx] ty #[.slice none 0 0, x]).run P w = .ok ((AV.sl M.length 0 0 m c).c ρ') w' ∧ (AV.sl M.length 0 0 m c).ok ρ' ∧
      Sim ρ' (M ++ [.one true 0 (xc c)]) w' ∧ Ext ρ M w ρ' (M ++ [.one true 0 (xc c)]) w' := by
  by_cases hm : m = 0
  · subst hm
    obtain ⟨h1, h2⟩ := sim_new (x := xc 0) (l := none) (w' := w) hs (fun _ _ => rfl) (Nat.le_refl _) rfl rfl rfl (.inr ⟨rfl, hv rfl⟩)
    refine ⟨0, Nat.le_refl _, _, w, ?_, ?_, h1, h2⟩
    · rw [run_append_stay ht hi hsrc]; simp [AV.c, upE_same]
    · simp [AV.ok, upE_same]
  · have hrun := run_append_grow_src (P := P) w t tx ty e ie z ht hi hz none 0 0 [] (by simp [Builtin.firstCells]) x m news hsrc (by omega) (by omega) (growslice_fits (by omega) (by rw [Nat.zero_add]; exact hb))
    simp only [List.nil_append, Nat.zero_add] at hrun
    have hc := grownCap_ge w m 0 e
    obtain ⟨h1, h2⟩ := alloc_sound (x := xc (grownCap w m 0 e)) (w1 := w.drew) (c := news.toArray ++ Builtin.zeroCells z.cells (grownCap w m 0 e - m)) (e := e) hs rfl rfl rfl rfl
      (by rw [hsz]; exact grown_cells hzs hsrc.newsLen hc) (fun k v hv => by obtain ⟨a, b⟩ := hat _ k v hv; exact ⟨a, grown_get b⟩) (hxr _)
    exact ⟨_, hc, _, _, by rw [sl_new.1]; exact hrun, sl_new.2, h1, h2⟩

theorem append_own (hs : Sim ρ M w) {t tx ty e : TypeId} {ie : TypeInfo} {z : Value} (ht : P.underlying t = some (.slice e)) (hi : P.info? e = some ie) (hz : ie.zero = some z) (hzs : z.cells.size = ie.size)
    {x : Value} {m : Nat} {news : List Value} (hsrc : Src P ie.size tx x m news w) {i g n c co : Nat} {xo : Cont} (hm : M[i]? = some (.one true g xo)) (hxo : xo.size = co * ie.size) (hn : n ≤ co) (hco : c ≤ co) (hvo : xo.virt → co = 0)
    (hb : (n + m) * ie.bytes ≤ 140737488355328) (h63 : ((n + m : Nat) : Int) ≤ 9223372036854775807)
    (xc : Nat → Cont) (hsz : ∀ c, (xc c).size = c * ie.size) (hat : ∀ c k v, (xc c).at k = some v → (k < n * ie.size ∧ xo.at k = some v) ∨ (n * ie.size ≤ k ∧ v.ok ρ ∧ news[k - n * ie.size]? = some (v.c ρ)))
    (hv : n = 0 → m = 0 → (xc 0).virt) (hok : (AV.sl i g 0 n c).ok ρ) (hxr : ∀ c, (xc c).row = true := by intros; rfl) (hxor : xo.row = true := by rfl) :
    ∃ c', n + m ≤ c' ∧ ∃ ρ' w', (Builtin.append_ #[t, tx] ty #[(AV.sl i g 0 n c).c ρ, x]).run P w = .ok ((AV.sl i (g + 1) 0 (n + m) c').c ρ') w' ∧ (AV.sl i (g + 1) 0 (n + m) c').ok ρ' ∧
      Sim ρ' (M.set i (.one true (g + 1) (xc c'))) w' ∧ Ext ρ M w ρ' (M.set i (.one true (g + 1) (xc c'))) w' := by
  have hun : (ρ i (g + 1)).isSome = false := by
    cases hh : (ρ i (g + 1)).isSome with
    | false => rfl
    | true => exact absurd (hs.tag i _ true g xo hm hh) (by omega)
  -- a new array
  have grow : ∀ (base : Option Addr) (olds : List Value), (AV.sl i g 0 n c).c ρ = .slice base n c → c < n + m → olds.length = n * ie.size → (Builtin.firstCells ie.size n (.slice base n c)).run P w.drew = .ok olds.toArray w.drew →
      (∀ k v, xo.at k = some v → k < n * ie.size → v.ok ρ ∧ olds[k]? = some (v.c ρ)) →
      ∃ c', n + m ≤ c' ∧ ∃ ρ' w', (Builtin.append_ #[t, tx] ty #[(AV.sl i g 0 n c).c ρ, x]).run P w = .ok ((AV.sl i (g + 1) 0 (n + m) c').c ρ') w' ∧ (AV.sl i (g + 1) 0 (n + m) c').ok ρ' ∧
      Sim ρ' (M.set i (.one true (g + 1) (xc c'))) w' ∧ Ext ρ M w ρ' (M.set i (.one true (g + 1) (xc c'))) w' := by
    intro base olds hbase hlt hlo hold hoat
    have hrun := run_append_grow_src (P := P) w t tx ty e ie z ht hi hz base n c olds hold x m news hsrc hlt h63 (growslice_fits hlt hb)
    have hc := grownCap_ge w (n + m) c e
    have hlen : (olds ++ news).length = (n + m) * ie.size := by rw [List.length_append, hlo, hsrc.newsLen, Nat.add_mul]
    obtain ⟨h1, h2⟩ := sim_retag (x' := xc (grownCap w (n + m) c e)) (l := some (w.heap.size, 0)) (w' := w.drew.alloc (.cells ((olds ++ news).toArray ++ Builtin.zeroCells z.cells (grownCap w (n + m) c e - (n + m))) e)) hs hm
      (fun b hb _ => Below.heap_alloc w.drew _ b hb) (by simp) rfl rfl rfl (.inl ⟨w.heap.size, 0, rfl, .inl (Nat.le_refl _), .mk' (hxr _) ⟨_, e, (0, 0), heap_alloc_new w.drew _, by rw [hsz, Nat.zero_add]; exact grown_cells hzs hlen hc, fun k v hv => by
        have key : v.ok ρ ∧ (olds ++ news)[k]? = some (v.c ρ) := by
          rcases hat _ k v hv with ⟨a, b⟩ | ⟨a, b, c⟩
          · obtain ⟨h1, h2⟩ := hoat k v b a
            exact ⟨h1, by rw [List.getElem?_append_left (by rw [hlo]; exact a)]; exact h2⟩
          · exact ⟨b, by rw [List.getElem?_append_right (by rw [hlo]; exact a), hlo]; exact c⟩
        exact ⟨AV.ok_ext (upE_ext hun) v key.1, by rw [AV.c_ext (upE_ext hun) v key.1, Nat.zero_add]; exact grown_get key.2⟩, fun _ => rfl⟩⟩)
    exact ⟨_, hc, _, _, by rw [hbase, sl_new.1]; exact hrun, sl_new.2, h1, h2⟩
  rcases hs.holds i g true xo (slot_one hm) with ⟨q, hq, hh⟩ | ⟨hq, hvv⟩
  · obtain ⟨cur, e', fr, h1, h2, h3, h4⟩ := hh.out hxor
    obtain rfl := h4 rfl
    have hbase : (AV.sl i g 0 n c).c ρ = .slice (some ⟨q.1, q.2, none⟩) n c := by simp [AV.c, hq]
    rw [hxo] at h2
    have hnc : n * ie.size ≤ co * ie.size := Nat.mul_le_mul_right _ hn
    by_cases hroom : n + m ≤ c
    · have hcc : (n + m) * ie.size ≤ co * ie.size := Nat.mul_le_mul_right _ (by omega)
      have hcc' : c * ie.size ≤ co * ie.size := Nat.mul_le_mul_right _ hco
      rw [Nat.add_mul] at hcc
      have hfit : q.2 + n * ie.size + news.length ≤ cur.size := by rw [hsrc.newsLen]; omega
      have hrun := run_append_in (ty := ty) ht hi hsrc hroom (off := q.2) h1 hfit
      have hl : (cur.toList.take (q.2 + n * ie.size) ++ news ++ cur.toList.drop (q.2 + n * ie.size + news.length)).toArray.size = cur.size := by
        simp only [List.size_toArray, List.length_append, List.length_take, List.length_drop, Array.length_toList]; omega
      obtain ⟨g1, g2⟩ := sim_retag (x' := xc c) (l := some (q.1, q.2)) (w' := w.setRow q.1 (cur.toList.take (q.2 + n * ie.size) ++ news ++ cur.toList.drop (q.2 + n * ie.size + news.length)).toArray) hs hm
        (fun b _ hb => setRow_other' _ _ _ _ (fun e => hb q hq e.symm)) (Nat.le_of_eq (setRow_size' _ _ _).symm) rfl rfl rfl (.inl ⟨q.1, q.2, rfl, .inr ⟨q, hq, rfl⟩, .mk' (hxr _) ⟨_, e', (0, 0), setRow_heap' _ _ _ _ _ _ h1, by rw [hl, hsz]; omega, fun k v hv => by
          have key : v.ok ρ ∧ ((cur.toList.take (q.2 + n * ie.size) ++ news ++ cur.toList.drop (q.2 + n * ie.size + news.length)).toArray)[q.2 + k]? = some (v.c ρ) := by
            rw [row_get _ _ _ hfit]
            rcases hat _ k v hv with ⟨a, b⟩ | ⟨a, b, c⟩
            · rw [if_neg (by omega)]; exact h3 k v b
            · have := (List.getElem?_eq_some_iff.1 c).1
              rw [if_pos (by omega), show q.2 + k - (q.2 + n * ie.size) = k - n * ie.size from by omega]
              exact ⟨b, c⟩
          exact ⟨AV.ok_ext (upE_ext hun) v key.1, by rw [AV.c_ext (upE_ext hun) v key.1]; exact key.2⟩, fun _ => rfl⟩⟩)
      exact ⟨c, hroom, _, _, by rw [hbase, hrun]; simp [AV.c, upE_same], by simp [AV.ok, upE_same], g1, g2⟩
    · refine grow _ ((cur.toList.drop q.2).take (n * ie.size)) hbase (by omega) (by simp; omega) ?_ ?_
      · refine run_firstCells_some w.drew ie.size n ⟨q.1, q.2, none⟩ n c _ (by simp; omega) fun j v hv => ?_
        simp only [List.getElem?_take, List.getElem?_drop] at hv
        split at hv
        · rw [add_addr, World.cell?_drew, cell_of_row w q.1 (q.2 + j) cur e' (0, 0) h1]
          simpa using hv
        · cases hv
      · intro k v hv hk
        obtain ⟨a, b⟩ := h3 k v hv
        exact ⟨a, by simp only [List.getElem?_take, List.getElem?_drop, if_pos hk]; simpa using b⟩
  · have h0 := hvo hvv
    have hn0 : n = 0 := by omega
    have hc0 : c = 0 := by omega
    subst hn0; subst hc0
    have hbase : (AV.sl i g 0 0 0).c ρ = .slice none 0 0 := by simp [AV.c, hq]
    by_cases hm0 : m = 0
    · subst hm0
      obtain ⟨g1, g2⟩ := sim_retag (x' := xc 0) (l := none) (w' := w) hs hm (fun _ _ _ => rfl) (Nat.le_refl _) rfl rfl rfl (.inr ⟨rfl, hv rfl rfl⟩)
      exact ⟨0, Nat.le_refl _, _, w, by rw [hbase, run_append_stay ht hi hsrc]; simp [AV.c, upE_same], by simp [AV.ok, upE_same], g1, g2⟩
    · exact grow none [] hbase (by omega) (by simp) (by simp [Builtin.firstCells]) (fun k v _ hk => by simp at hk)

end

/-! What an append appends. -/
def srcKind (x : AV) (k : TK) : Bool :=
  match x, k with
  | .str _, .str => true
  | .str _, _ => false
  | _, .slice _ => true
  | _, _ => false
theorem srcKind_str {s : ByteArray} {k : TK} (h : srcKind (.str s) k = true) : k = .str := by
  cases k <;> simp_all [srcKind]
theorem srcKind_slice {x : AV} {k : TK} (h : srcKind x k = true) (hx : ∀ s, x ≠ .str s) : ∃ e, k = .slice e := by
  cases x <;> cases k <;> simp_all [srcKind]
def srcInts (M : AH) (k : IntKind) (x : AV) (K : List Int → Nat → Prop) : Prop :=
  match x with
  | .ns => K [] 0
  | .sl i g off n c => slotA M i g fun _ x => match x with
    | .ints k' xs _ => sameK k k' (off + n ≤ xs.length ∧ ∀ ys, ys = (xs.drop off).take n → K ys n)
    | _ => False
  | .str s => match k with
    | .u8 => K (s.data.toList.map fun b => (b.toNat : Int)) s.size
    | _ => False
  | _ => False
def srcBools (M : AH) (x : AV) (K : List Bool → Nat → Prop) : Prop :=
  match x with
  | .ns => K [] 0
  | .sl i g off n c => slotA M i g fun _ x => match x with
    | .bools xs _ => off + n ≤ xs.length ∧ ∀ ys, ys = (xs.drop off).take n → K ys n
    | _ => False
  | _ => False
def srcTab (M : AH) (sz : Nat) (x : AV) (K : (Nat → List AV) → Nat → Prop) : Prop :=
  match x with
  | .ns => K (fun _ => []) 0
  | .sl i g off n c => slotA M i g fun _ x => match x with
    | .tab sz' m get _ => condT (Nat.beq sz sz') (off = 0 ∧ n ≤ m ∧ (∀ q, q < n → (get q).length = sz ∧ (get q).all AV.one = true) ∧ K get n)
    | .cells cs => condT (Nat.beq sz 1) (off + n ≤ cs.length ∧ ((cs.drop off).take n).all AV.one = true ∧ K (fun q => (cs[off + q]?).toList) n)
    | _ => False
  | _ => False

section
variable {P : Program} {ρ : Env} {M : AH} {w : World}

theorem int_cells (k : IntKind) (xs : List Int) (ρ : Env) : (AV.cl ρ (xs.map (AV.int k))) = xs.map (Value.int k) := by
  simp [AV.cl_eq, Function.comp_def, AV.c]

/-- The cells of a slice, out of what its object holds. -/
theorem src_slice (hs : Sim ρ M w) {tx e' : Nat} (hk : P.underlying tx = some (.slice e')) {sz : Nat} {i g off n c : Nat} {own : Bool} {x : Cont} (hsl : slot M i g = some (own, x)) (hv : x.virt → n = 0)
    {l : List AV} (hl : l.length = n * sz) (hone : l.all AV.one = true) (hat : ∀ k v, l[k]? = some v → ∃ u, x.at (off + k) = some u ∧ u.c ρ = v.c ρ) : Src P sz tx ((AV.sl i g off n c).c ρ) n (AV.cl ρ l) w := by
  have hone' : ∀ u ∈ AV.cl ρ l, u.oneCell' = true := fun u hu => by
    rw [AV.cl_eq, List.mem_map] at hu
    obtain ⟨v, hv, rfl⟩ := hu
    exact AV.one_c ρ (List.all_eq_true.1 hone v hv)
  rcases hs.holds i g own x hsl with ⟨q, hq, hh⟩ | ⟨hq, hvv⟩
  · have : (AV.sl i g off n c).c ρ = .slice (some ⟨q.1, q.2 + off, none⟩) n c := by simp [AV.c, hq]
    rw [this]
    refine Src.ofSlice w hk _ n c _ (by rw [AV.cl_eq, List.length_map, hl]) (fun j u hu => ?_) hone'
    rw [AV.cl_eq, List.getElem?_map, Option.map_eq_some_iff] at hu
    obtain ⟨v, hv', rfl⟩ := hu
    obtain ⟨u, h1, h2⟩ := hat j v hv'
    rw [add_addr, Nat.add_assoc, ← h2]
    exact (hh.cell h1).2
  · have h0 := hv hvv
    subst h0
    have : (AV.sl i g off 0 c).c ρ = .slice none 0 c := by simp [AV.c, hq]
    rw [this]
    have hl0 : l = [] := List.eq_nil_of_length_eq_zero (by simpa using hl)
    subst hl0
    exact Src.ofNil w hk c

theorem srcInts_sound {T : List TI} (hT : TabOK P T) (hs : Sim ρ M w) {k : IntKind} {x : AV} {tx : Nat} {ti : TI} (ht : T[tx]? = some ti) (hkind : srcKind x ti.k = true) {K : List Int → Nat → Prop}
    (h : srcInts M k x K) : ∃ ys m, ys.length = m ∧ K ys m ∧ Src P 1 tx (x.c ρ) m (ys.map (Value.int k)) w := by
  obtain ⟨d, hd, hkd⟩ := hT.und ht
  unfold srcInts at h
  split at h
  · obtain ⟨e, he⟩ := srcKind_slice hkind (by simp)
    rw [he] at hkd
    obtain rfl := tkOf_slice hkd
    exact ⟨[], 0, rfl, h, Src.ofNil w hd 0⟩
  · rename_i i g off n c
    obtain ⟨e, he⟩ := srcKind_slice hkind (by simp)
    rw [he] at hkd
    obtain rfl := tkOf_slice hkd
    replace h := slotA_sound h
    obtain ⟨own, x_, hsl, h⟩ := h
    split at h
    · rename_i k' xs co
      replace h := sameK_sound h
      obtain ⟨rfl, hle, h⟩ := h
      have hlen : ((xs.drop off).take n).length = n := by simp; omega
      refine ⟨_, n, hlen, h _ rfl, ?_⟩
      rw [← int_cells k _ ρ]
      refine src_slice hs hd hsl (by simp only [Cont.virt]; rintro ⟨rfl, _⟩; simp at hle; omega) (by simp; omega) (by rw [List.all_eq_true]; intro v hv; obtain ⟨z, _, rfl⟩ := List.mem_map.1 hv; rfl) fun j v hv => ?_
      rw [List.getElem?_map, Option.map_eq_some_iff] at hv
      obtain ⟨z, hz, rfl⟩ := hv
      simp only [List.getElem?_take, List.getElem?_drop] at hz
      split at hz
      · exact ⟨_, by simp only [Cont.at, hz]; rfl, rfl⟩
      · cases hz
    · exact h.elim
  · rename_i s
    have := srcKind_str hkind
    rw [this] at hkd
    obtain rfl := tkOf_str hkd
    split at h
    · refine ⟨_, s.size, by simp, h, ?_⟩
      have := Src.ofString (P := P) w hd s
      simpa [byteCells, Function.comp_def, AV.c] using this
    · exact h.elim
  · exact h.elim

theorem srcBools_sound {T : List TI} (hT : TabOK P T) (hs : Sim ρ M w) {x : AV} {tx e' : Nat} (hd : P.underlying tx = some (.slice e')) {K : List Bool → Nat → Prop}
    (h : srcBools M x K) : ∃ ys m, ys.length = m ∧ K ys m ∧ Src P 1 tx (x.c ρ) m (ys.map Value.bool) w := by
  unfold srcBools at h
  split at h
  · exact ⟨[], 0, rfl, h, Src.ofNil w hd 0⟩
  · rename_i i g off n c
    replace h := slotA_sound h
    obtain ⟨own, x_, hsl, h⟩ := h
    split at h
    · rename_i xs co
      obtain ⟨hle, h⟩ := h
      have hlen : ((xs.drop off).take n).length = n := by simp; omega
      refine ⟨_, n, hlen, h _ rfl, ?_⟩
      have e : ((xs.drop off).take n).map Value.bool = AV.cl ρ (((xs.drop off).take n).map AV.bo) := by simp [AV.cl_eq, Function.comp_def, AV.c]
      rw [e]
      refine src_slice hs hd hsl (by simp only [Cont.virt]; rintro ⟨rfl, _⟩; simp at hle; omega) (by simp; omega) (by rw [List.all_eq_true]; intro v hv; obtain ⟨z, _, rfl⟩ := List.mem_map.1 hv; rfl) fun j v hv => ?_
      rw [List.getElem?_map, Option.map_eq_some_iff] at hv
      obtain ⟨z, hz, rfl⟩ := hv
      simp only [List.getElem?_take, List.getElem?_drop] at hz
      split at hz
      · exact ⟨_, by simp only [Cont.at, hz]; rfl, rfl⟩
      · cases hz
    · exact h.elim
  · exact h.elim

/-- The cells of rows, side by side. -/
def flatR (get : Nat → List AV) (n : Nat) : List AV := (List.range n).flatMap get
theorem flatR_length {get : Nat → List AV} {sz : Nat} : ∀ {n : Nat}, (∀ q, q < n → (get q).length = sz) → (flatR get n).length = n * sz
  | 0, _ => by simp [flatR]
  | n + 1, h => by
    have := flatR_length (n := n) fun q hq => h q (by omega)
    unfold flatR at this ⊢
    rw [List.range_succ, List.flatMap_append, List.length_append, this, Nat.add_mul]
    simp [h n (by omega)]
theorem flatR_get {get : Nat → List AV} {sz : Nat} (hpos : 0 < sz) : ∀ {n : Nat}, (∀ q, q < n → (get q).length = sz) → ∀ k, k < n * sz → (flatR get n)[k]? = (get (k / sz))[k % sz]?
  | 0, _, k, hk => by simp at hk
  | n + 1, h, k, hk => by
    have hl := flatR_length (n := n) fun q hq => h q (by omega)
    have ih := flatR_get hpos (n := n) fun q hq => h q (by omega)
    have e : flatR get (n + 1) = flatR get n ++ get n := by simp [flatR, List.range_succ]
    rw [e]
    by_cases hk' : k < n * sz
    · rw [List.getElem?_append_left (by omega), ih k hk']
    · rw [List.getElem?_append_right (by omega), hl]
      have h1 : k / sz = n := by
        rw [Nat.add_mul, Nat.one_mul] at hk
        exact Nat.div_eq_of_lt_le (by omega) (by rw [Nat.add_mul, Nat.one_mul]; exact hk)
      have h2 : k % sz = k - n * sz := by
        have := Nat.div_add_mod k sz
        rw [h1, Nat.mul_comm] at this
        omega
      rw [h1, h2]

theorem srcTab_sound {T : List TI} (hT : TabOK P T) (hs : Sim ρ M w) {sz : Nat} (hpos : 0 < sz) {x : AV} {tx e' : Nat} (hd : P.underlying tx = some (.slice e')) {K : (Nat → List AV) → Nat → Prop}
    (h : srcTab M sz x K) : ∃ get m, K get m ∧ (∀ q, q < m → (get q).length = sz) ∧ Src P sz tx (x.c ρ) m (AV.cl ρ (flatR get m)) w ∧ AV.okl ρ (flatR get m) := by
  unfold srcTab at h
  split at h
  · exact ⟨_, 0, h, fun q hq => by omega, Src.ofNil w hd 0, trivial⟩
  · rename_i i g off n c
    replace h := slotA_sound h
    obtain ⟨own, x_, hsl, h⟩ := h
    have okl : ∀ (l : List AV), (∀ v ∈ l, ∃ k, x_.at k = some v) → (x_.virt → l = []) → AV.okl ρ l := by
      intro l hl hv
      rw [AV.okl_iff]
      intro v hvl
      obtain ⟨k, hk⟩ := hl v hvl
      rcases hs.holds i g own x_ hsl with ⟨q, hq, hh⟩ | ⟨hq, hvv⟩
      · exact (hh.cell hk).1
      · rw [hv hvv] at hvl; cases hvl
    split at h
    · rename_i sz' m get co
      replace h := condT_sound h
      obtain ⟨hb, rfl, hnm, hrow, h⟩ := h
      have e1 : sz = sz' := Nat.eq_of_beq_eq_true hb
      subst e1
      have hlen := flatR_length (n := n) fun q hq => (hrow q hq).1
      have hget := flatR_get hpos (n := n) fun q hq => (hrow q hq).1
      have hat : ∀ k v, (flatR get n)[k]? = some v → (Cont.tab sz m get co).at (0 + k) = some v := by
        intro k v hv
        have hk : k < n * sz := by have := (List.getElem?_eq_some_iff.1 hv).1; omega
        rw [Nat.zero_add]
        simp only [Cont.at]
        rw [if_pos (Nat.lt_of_lt_of_le hk (Nat.mul_le_mul_right _ hnm)), ← hget k hk]; exact hv
      refine ⟨get, n, h, fun q hq => (hrow q hq).1, src_slice hs hd hsl (by simp only [Cont.virt]; rintro ⟨rfl, _⟩; omega) hlen ?_ fun k v hv => ⟨v, hat k v hv, rfl⟩, okl _ ?_ ?_⟩
      · rw [List.all_eq_true]
        intro v hv
        obtain ⟨q, hq, hv⟩ := List.mem_flatMap.1 hv
        exact List.all_eq_true.1 (hrow q (List.mem_range.1 hq)).2 v hv
      · intro v hv
        obtain ⟨k, hk⟩ := List.getElem?_of_mem hv
        exact ⟨0 + k, hat k v hk⟩
      · rintro ⟨h1, _⟩
        apply List.eq_nil_of_length_eq_zero
        rw [hlen, show n = 0 by omega, Nat.zero_mul]
    · rename_i cs
      replace h := condT_sound h
      obtain ⟨hb, hle, hone, h⟩ := h
      have e1 : sz = 1 := Nat.eq_of_beq_eq_true hb
      subst e1
      have hrow : ∀ q, q < n → ((cs[off + q]?).toList).length = 1 := fun q hq => by
        rw [List.getElem?_eq_getElem (by omega)]; rfl
      have hlen := flatR_length (n := n) hrow
      have hget := flatR_get hpos (n := n) hrow
      have hat : ∀ k v, (flatR (fun q => (cs[off + q]?).toList) n)[k]? = some v → cs[off + k]? = some v ∧ k < n := by
        intro k v hv
        have hk : k < n * 1 := by have := (List.getElem?_eq_some_iff.1 hv).1; rw [hlen] at this; exact this
        have hkc : off + k < cs.length := by omega
        rw [hget k hk] at hv
        simp only [Nat.div_one, Nat.mod_one] at hv
        rw [List.getElem?_eq_getElem hkc] at hv ⊢
        exact ⟨by simpa using hv, by omega⟩
      refine ⟨_, n, h, hrow, src_slice hs hd hsl (fun hv => hv.elim) hlen ?_ fun k v hv => ⟨v, (hat k v hv).1, rfl⟩, okl _ ?_ (fun hv => hv.elim)⟩
      · rw [List.all_eq_true]
        intro v hv
        obtain ⟨k, hk⟩ := List.getElem?_of_mem hv
        obtain ⟨h1, h2⟩ := hat k v hk
        refine List.all_eq_true.1 hone v (List.mem_of_getElem? (i := k) ?_)
        simp only [List.getElem?_take, List.getElem?_drop, if_pos h2]; exact h1
      · intro v hv
        obtain ⟨k, hk⟩ := List.getElem?_of_mem hv
        exact ⟨off + k, (hat k v hk).1⟩
    · exact h.elim
  · exact h.elim
end

def roomB : Nat := 140737488355328

/-- append. -/
def appendA (T : List TI) (M : AH) (tS tX : Nat) (d x : AV) (K : AV → AH → Prop) : Prop :=
  match T[tS]?, T[tX]? with
  | some ⟨.slice el, _, _, _⟩, some tx => match T[el]? with
    | some te => condT (srcKind x tx.k && Nat.blt 0 te.size && Nat.beq te.zero.length te.size) (match d with
      | .ns => match te.size, te.k with
        | 1, .int k => srcInts M k x fun ys m => (m ≤ 9223372036854775807 ∧ m * te.bytes ≤ 140737488355328) ∧ ∀ c, m ≤ c → K (.sl M.length 0 0 m c) (M ++ [.one true 0 (.ints k ys c)])
        | 1, .bool => srcBools M x fun ys m => (m ≤ 9223372036854775807 ∧ m * te.bytes ≤ 140737488355328) ∧ ∀ c, m ≤ c → K (.sl M.length 0 0 m c) (M ++ [.one true 0 (.bools ys c)])
        | s, _ => srcTab M s x fun get m => (m ≤ 9223372036854775807 ∧ m * te.bytes ≤ 140737488355328) ∧ ∃ get', (∀ q, q < m → get' q = get q) ∧ ∀ c, m ≤ c → K (.sl M.length 0 0 m c) (M ++ [.one true 0 (.tab s m get' c)])
      | .sl i g off n c => match M[i]? with
        | some (.one true g' (.ints k xs co)) => match te.size, te.k with
          | 1, .int k' => (g = g' ∧ off = 0 ∧ n = xs.length ∧ c ≤ co ∧ n ≤ co) ∧ sameK k k' (srcInts M k x fun ys m => (n + m ≤ 9223372036854775807 ∧ (n + m) * te.bytes ≤ 140737488355328) ∧ ∀ c, n + m ≤ c → K (.sl i (g + 1) 0 (n + m) c) (M.set i (.one true (g + 1) (.ints k (xs ++ ys) c))))
          | _, _ => False
        | some (.one true g' (.bools xs co)) => match te.size, te.k with
          | 1, .bool => (g = g' ∧ off = 0 ∧ n = xs.length ∧ c ≤ co ∧ n ≤ co) ∧ srcBools M x fun ys m => (n + m ≤ 9223372036854775807 ∧ (n + m) * te.bytes ≤ 140737488355328) ∧ ∀ c, n + m ≤ c → K (.sl i (g + 1) 0 (n + m) c) (M.set i (.one true (g + 1) (.bools (xs ++ ys) c)))
          | _, _ => False
        | some (.one true g' (.tab sz m0 get co)) => condT (Nat.beq te.size sz) ((g = g' ∧ off = 0 ∧ n = m0 ∧ c ≤ co ∧ n ≤ co) ∧ srcTab M te.size x fun src m => (n + m ≤ 9223372036854775807 ∧ (n + m) * te.bytes ≤ 140737488355328) ∧
            ∃ get', (∀ q, q < n + m → get' q = if q < n then get q else src (q - n)) ∧ ∀ c, n + m ≤ c → K (.sl i (g + 1) 0 (n + m) c) (M.set i (.one true (g + 1) (.tab te.size (n + m) get' c))))
        | _ => False
      | _ => False)
    | none => False
  | _, _ => False

theorem ints_at {ρ : Env} {k : IntKind} {xs : List Int} {c j : Nat} {v : AV} (h : (Cont.ints k xs c).at j = some v) : v.ok ρ ∧ (xs.map (Value.int k))[j]? = some (v.c ρ) := by
  simp only [Cont.at, Option.map_eq_some_iff] at h
  obtain ⟨z, hz, rfl⟩ := h
  exact ⟨trivial, by rw [List.getElem?_map, hz]; rfl⟩
theorem bools_at {ρ : Env} {xs : List Bool} {c j : Nat} {v : AV} (h : (Cont.bools xs c).at j = some v) : v.ok ρ ∧ (xs.map Value.bool)[j]? = some (v.c ρ) := by
  simp only [Cont.at, Option.map_eq_some_iff] at h
  obtain ⟨z, hz, rfl⟩ := h
  exact ⟨trivial, by rw [List.getElem?_map, hz]; rfl⟩

theorem app_at {k : Nat} {α : Type} {f : α → AV} {g : α → Value} {ρ : Env} (hf : ∀ a, (f a).c ρ = g a) (hok : ∀ a, (f a).ok ρ) {xs ys : List α} {v : AV} (h : ((xs ++ ys)[k]?).map f = some v) :
    (k < xs.length * 1 ∧ (xs[k]?).map f = some v) ∨ (xs.length * 1 ≤ k ∧ v.ok ρ ∧ (ys.map g)[k - xs.length * 1]? = some (v.c ρ)) := by
  rw [Option.map_eq_some_iff] at h
  obtain ⟨z, hz, rfl⟩ := h
  by_cases hk : k < xs.length
  · rw [List.getElem?_append_left hk] at hz
    exact .inl ⟨by omega, by rw [hz]; rfl⟩
  · rw [List.getElem?_append_right (by omega)] at hz
    exact .inr ⟨by omega, hok z, by rw [List.getElem?_map, show k - xs.length * 1 = k - xs.length from by omega, hz, Option.map_some, hf]⟩

set_option maxHeartbeats 1000000 in
theorem appendA_sound {P : Program} {T : List TI} (hT : TabOK P T) {M : AH} {tS tX ty : Nat} {d x : AV} {K : AV → AH → Prop} {ρ : Env} {w : World} (hs : Sim ρ M w) (hd : d.ok ρ)
    (h : appendA T M tS tX d x K) : ∃ v M' ρ' w', (Builtin.append_ #[tS, tX] ty #[d.c ρ, x.c ρ]).run P w = .ok (v.c ρ') w' ∧ K v M' ∧ v.ok ρ' ∧ Sim ρ' M' w' ∧ Ext ρ M w ρ' M' w' := by
  unfold appendA at h
  split at h
  · rename_i el s1 s2 s3 tx ht htx
    obtain ⟨dS, hdS, hkS⟩ := hT.und ht
    obtain rfl := tkOf_slice hkS
    obtain ⟨dX, hdX, hkX⟩ := hT.und htx
    split at h
    · rename_i te hte
      replace h := condT_sound h
      obtain ⟨hb, h⟩ := h
      simp only [Bool.and_eq_true] at hb
      obtain ⟨⟨hkx, hpos⟩, hzl⟩ := hb
      have hpos : 0 < te.size := by simpa using hpos
      obtain ⟨d2, ie, z, e1, e2, e3, rfl⟩ := hT.get hte
      simp only at hpos hzl h
      have hzs : z.cells.size = ie.size := by simpa using Nat.eq_of_beq_eq_true hzl
      have slx : (∀ s, x ≠ .str s) → ∃ e', P.underlying tX = some (.slice e') := by
        intro hx
        obtain ⟨e', he⟩ := srcKind_slice hkx hx
        rw [he] at hkX
        obtain rfl := tkOf_slice hkX
        exact ⟨e', hdX⟩
      split at h
      · -- nil
        have dns : (AV.ns).c ρ = .slice none 0 0 := rfl
        rw [dns]
        split at h
        · rename_i k h1 h2
          obtain ⟨ys, m, hlen, ⟨⟨b1, b2⟩, hK⟩, hsrc⟩ := srcInts_sound hT hs htx hkx h
          rw [← h1] at hsrc
          obtain ⟨c, hc, ρ', w', r1, r2, r3, r4⟩ := append_new (ty := ty) hs hdS e2 e3 hzs hsrc b2 (by omega) (fun c => .ints k ys c) (fun c => by simp [Cont.size, h1]) (fun c j v hv => ints_at hv) (fun hm => ⟨List.eq_nil_of_length_eq_zero (by omega), rfl⟩)
          exact ⟨_, _, ρ', w', r1, hK c hc, r2, r3, r4⟩
        · rename_i h1 h2
          have hx : ∀ s, x ≠ .str s := by rintro s rfl; exact h.elim
          obtain ⟨e', hdx⟩ := slx hx
          obtain ⟨ys, m, hlen, ⟨⟨b1, b2⟩, hK⟩, hsrc⟩ := srcBools_sound hT hs hdx h
          rw [← h1] at hsrc
          obtain ⟨c, hc, ρ', w', r1, r2, r3, r4⟩ := append_new (ty := ty) hs hdS e2 e3 hzs hsrc b2 (by omega) (fun c => .bools ys c) (fun c => by simp [Cont.size, h1]) (fun c j v hv => bools_at hv) (fun hm => ⟨List.eq_nil_of_length_eq_zero (by omega), rfl⟩)
          exact ⟨_, _, ρ', w', r1, hK c hc, r2, r3, r4⟩
        · have hx : ∀ s, x ≠ .str s := by rintro s rfl; exact h.elim
          obtain ⟨e', hdx⟩ := slx hx
          obtain ⟨get, m, ⟨⟨b1, b2⟩, get', hg, hK⟩, hrow, hsrc, hokr⟩ := srcTab_sound hT hs hpos hdx h
          obtain ⟨c, hc, ρ', w', r1, r2, r3, r4⟩ := append_new (ty := ty) hs hdS e2 e3 hzs hsrc b2 (by omega) (fun c => .tab ie.size m get' c) (fun c => rfl) (fun c j v hv => by
            simp only [Cont.at] at hv
            split at hv
            · rename_i hj
              have hq : j / ie.size < m := (Nat.div_lt_iff_lt_mul hpos).2 hj
              rw [hg _ hq, ← flatR_get hpos hrow j hj] at hv
              exact ⟨(AV.okl_iff ρ _).1 hokr v (List.mem_of_getElem? hv), by rw [AV.cl_eq, List.getElem?_map, hv]; rfl⟩
            · cases hv) (fun hm => ⟨hm, rfl⟩)
          exact ⟨_, _, ρ', w', r1, hK c hc, r2, r3, r4⟩
      · rename_i i g off n c
        split at h
        · rename_i g' k xs co hm
          split at h
          · rename_i k' h1 h2
            obtain ⟨⟨rfl, rfl, rfl, hco, hn⟩, h⟩ := h
            replace h := sameK_sound h
            obtain ⟨rfl, h⟩ := h
            obtain ⟨ys, m, hlen, ⟨⟨b1, b2⟩, hK⟩, hsrc⟩ := srcInts_sound hT hs htx hkx h
            rw [← h1] at hsrc
            obtain ⟨c', hc, ρ', w', r1, r2, r3, r4⟩ := append_own (ty := ty) hs hdS e2 e3 hzs hsrc hm (by simp [Cont.size, h1]) hn hco (fun hv => hv.2) b2 (by omega) (fun c => .ints k (xs ++ ys) c) (fun c => by simp [Cont.size, h1])
              (fun c j v hv => by rw [h1]; exact app_at (f := AV.int k) (g := Value.int k) (fun _ => rfl) (fun _ => trivial) hv) (fun a b => ⟨by rw [List.eq_nil_of_length_eq_zero a, List.eq_nil_of_length_eq_zero (hlen.trans b)]; rfl, rfl⟩) hd
            exact ⟨_, _, ρ', w', r1, hK c' hc, r2, r3, r4⟩
          · exact h.elim
        · rename_i g' xs co hm
          split at h
          · rename_i h1 h2
            obtain ⟨⟨rfl, rfl, rfl, hco, hn⟩, h⟩ := h
            have hx : ∀ s, x ≠ .str s := by rintro s rfl; exact h.elim
            obtain ⟨e', hdx⟩ := slx hx
            obtain ⟨ys, m, hlen, ⟨⟨b1, b2⟩, hK⟩, hsrc⟩ := srcBools_sound hT hs hdx h
            rw [← h1] at hsrc
            obtain ⟨c', hc, ρ', w', r1, r2, r3, r4⟩ := append_own (ty := ty) hs hdS e2 e3 hzs hsrc hm (by simp [Cont.size, h1]) hn hco (fun hv => hv.2) b2 (by omega) (fun c => .bools (xs ++ ys) c) (fun c => by simp [Cont.size, h1])
              (fun c j v hv => by rw [h1]; exact app_at (f := AV.bo) (g := Value.bool) (fun _ => rfl) (fun _ => trivial) hv) (fun a b => ⟨by rw [List.eq_nil_of_length_eq_zero a, List.eq_nil_of_length_eq_zero (hlen.trans b)]; rfl, rfl⟩) hd
            exact ⟨_, _, ρ', w', r1, hK c' hc, r2, r3, r4⟩
          · exact h.elim
        · rename_i g' sz m0 get co hm
          replace h := condT_sound h
          obtain ⟨hb, ⟨rfl, rfl, rfl, hco, hn⟩, h⟩ := h
          have e5 : ie.size = sz := Nat.eq_of_beq_eq_true hb
          subst e5
          have hx : ∀ s, x ≠ .str s := by rintro s rfl; exact h.elim
          obtain ⟨e', hdx⟩ := slx hx
          obtain ⟨src, m, ⟨⟨b1, b2⟩, get', hg, hK⟩, hrow, hsrc, hokr⟩ := srcTab_sound hT hs hpos hdx h
          obtain ⟨c', hc, ρ', w', r1, r2, r3, r4⟩ := append_own (ty := ty) hs hdS e2 e3 hzs hsrc hm rfl hn hco (fun hv => hv.2) b2 (by omega) (fun c => .tab ie.size (n + m) get' c) (fun c => rfl)
              (fun c j v hv => by
                simp only [Cont.at] at hv
                split at hv
                · rename_i hj
                  have hq : j / ie.size < n + m := (Nat.div_lt_iff_lt_mul hpos).2 hj
                  rw [hg _ hq] at hv
                  by_cases hjn : j < n * ie.size
                  · refine .inl ⟨hjn, ?_⟩
                    rw [if_pos ((Nat.div_lt_iff_lt_mul hpos).2 hjn)] at hv
                    simp only [Cont.at, if_pos hjn]; exact hv
                  · have hle : n * ie.size ≤ j := by omega
                    have h1 : n ≤ j / ie.size := (Nat.le_div_iff_mul_le hpos).2 hle
                    rw [if_neg (by omega)] at hv
                    have hd : (j - n * ie.size) / ie.size = j / ie.size - n := by rw [Nat.mul_comm n]; exact Nat.sub_mul_div ..
                    have hmod : (j - n * ie.size) % ie.size = j % ie.size := by rw [Nat.mul_comm n]; exact Nat.sub_mul_mod (by rw [Nat.mul_comm]; exact hle)
                    have hjm : j - n * ie.size < m * ie.size := by rw [Nat.add_mul] at hj; omega
                    rw [← hd, ← hmod, ← flatR_get hpos hrow _ hjm] at hv
                    exact .inr ⟨hle, (AV.okl_iff ρ _).1 hokr v (List.mem_of_getElem? hv), by rw [AV.cl_eq, List.getElem?_map, hv]; rfl⟩
                · cases hv) (fun a b => ⟨by omega, rfl⟩) hd
          exact ⟨_, _, ρ', w', r1, hK c' hc, r2, r3, r4⟩
        · exact h.elim
      · exact h.elim
    · exact h.elim
  · exact h.elim

end Go.Proofs.Ytaioclggifdnhaa
