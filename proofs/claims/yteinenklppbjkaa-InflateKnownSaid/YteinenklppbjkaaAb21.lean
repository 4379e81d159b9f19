/- The same walk, in steps: what runs behind a step is shut, so that neither the elaborator nor the kernel runs ahead. -/
import Derived.Test.YteinenklppbjkaaAb20
import Derived.LoopNIn
set_option linter.unusedVariables false
set_option linter.unusedSimpArgs false
open Go.RowKit
namespace Go.Proofs.Yteinenklppbjkaa

theorem codeO_ex : ∃ f : Cx → Code → (AEx → AA → AH → Prop) → (AV → AH → Prop) → AA → AH → Prop, f = codeA := ⟨_, rfl⟩
@[irreducible] noncomputable def codeO : Cx → Code → (AEx → AA → AH → Prop) → (AV → AH → Prop) → AA → AH → Prop := Classical.choose codeO_ex
theorem codeO_eq : codeO = codeA := by unfold codeO; exact Classical.choose_spec codeO_ex
theorem seqO_ex : ∃ f : Cx → Array Oper → (AV → AH → Prop) → (AA → AH → Prop) → List Oper → AA → AH → Prop, f = fun x => seqA x.P x.T x.n x.W := ⟨_, rfl⟩
@[irreducible] noncomputable def seqO : Cx → Array Oper → (AV → AH → Prop) → (AA → AH → Prop) → List Oper → AA → AH → Prop := Classical.choose seqO_ex
theorem seqO_eq : seqO = fun x => seqA x.P x.T x.n x.W := by unfold seqO; exact Classical.choose_spec seqO_ex
theorem drawO_ex : ∃ f : Cx → Array Oper → (AV → AH → Prop) → (AA → AH → Prop) → List Nat → List Nat → List (Nat × Nat) → AA → AH → Prop, f = fun x => drawA x.P x.T x.n x.W := ⟨_, rfl⟩
@[irreducible] noncomputable def drawO : Cx → Array Oper → (AV → AH → Prop) → (AA → AH → Prop) → List Nat → List Nat → List (Nat × Nat) → AA → AH → Prop := Classical.choose drawO_ex
theorem drawO_eq : drawO = fun x => drawA x.P x.T x.n x.W := by unfold drawO; exact Classical.choose_spec drawO_ex

/-- Behind the first part of a sequence. -/
def seqQ (k : AA → AH → Prop) (Q : AEx → AA → AH → Prop) (e : AEx) (a : AA) (M : AH) : Prop :=
  match e with
  | .normal => k a M
  | e => Q e a M
def blockQ (id : Nat) (Q : AEx → AA → AH → Prop) (e : AEx) (a : AA) (M : AH) : Prop :=
  match e with
  | .exit id' => match Nat.beq id' id with
    | true => Q .normal a M
    | false => Q (.exit id') a M
  | e => Q e a M
def condV (v : AV) (p q : Prop) : Prop :=
  match v with
  | .tt => p
  | .ff => q
  | .bo b => (b = true → p) ∧ (b = false → q)
  | _ => False
def nthO : List Oper → Nat → Option Oper
  | [], _ => none
  | o :: _, 0 => some o
  | _ :: l, i + 1 => nthO l i
theorem nthO_eq : ∀ (l : List Oper) (i : Nat), nthO l i = l[i]?
  | [], i => by simp [nthO]
  | o :: l, 0 => rfl
  | o :: l, i + 1 => by simp [nthO, nthO_eq l i]

/-- A heap, with its spine in sight. -/
def normK : AH → (AH → Prop) → Prop
  | [], K => K []
  | o :: M, K => normK M fun M => K (o :: M)
theorem normK_eq : ∀ (M : AH) (K : AH → Prop), normK M K = K M
  | [], K => rfl
  | o :: M, K => normK_eq M fun M => K (o :: M)
def putN (n t : Nat) (v : AV) (a : AA) : AA := fun k => match Nat.beq k t && Nat.blt t n with
  | true => v
  | false => a k
def putK (n : Nat) (a : AA) (d : Option Nat) (v : AV) (K : AA → Prop) : Prop :=
  match d with
  | none => K a
  | some t => K (putN n t v a)
theorem putK_eq (n : Nat) (a : AA) (d : Option Nat) (v : AV) (K : AA → Prop) : putK n a d v K = K (a.put n d v) := by
  cases d <;> rfl
def stepO (x : Cx) (ops : Array Oper) (o : Oper) (a : AA) (M : AH) (K : AA → AH → Prop) (Kp : AV → AH → Prop) : Prop :=
  condT (plainOp o.op) (guardA x.n ops o a (fun a => effA x.P x.T (elemN x.W o.dst) M (evA a) o.op (fun v M' => putK x.n a o.dst v fun a => normK M' fun M => K a M) Kp) (fun a => putK x.n a o.dst (.tup []) fun a => K a M))
theorem stepO_eq (x : Cx) (ops : Array Oper) (o : Oper) (a : AA) (M : AH) (K : AA → AH → Prop) (Kp : AV → AH → Prop) : stepO x ops o a M K Kp = stepA x.P x.T x.n x.W ops o a M K Kp := by
  simp only [stepO, stepA, putK_eq, normK_eq]

section
variable {x : Cx} {Q : AEx → AA → AH → Prop} {Kp : AV → AH → Prop} {a : AA} {M : AH} {c d : Code} {id : Nat} {ops : Array Oper} {K : AA → AH → Prop}

def codeStep (x : Cx) (c : Code) (Q : AEx → AA → AH → Prop) (Kp : AV → AH → Prop) (a : AA) (M : AH) : Prop :=
  match c with
  | .skip => Q .normal a M
  | .label _ => Q .normal a M
  | .exit id => Q (.exit id) a M
  | .ret => Q .ret a M
  | .seq c d => codeO x c (seqQ (codeO x d Q Kp) Q) Kp a M
  | .cond o c d => condV (evA a o) (codeO x c Q Kp a M) (codeO x d Q Kp a M)
  | .block id c => codeO x c (blockQ id Q) Kp a M
  | .region id ops draw => match draw with
    | false => normK M fun M => seqO x ops Kp (fun a M => Q .normal a M) ops.toList a M
    | true => match x.pl id with
      | some (plan, _) => match plan with
        | [] => normK M fun M => seqO x ops Kp (fun a M => Q .normal a M) ops.toList a M
        | p :: plan => normK M fun M => drawO x ops Kp (fun a M => Q .normal a M) (x.B id) [] (p :: plan) a M
      | none => False
  | .loop c => WA x.P x.r x.D x.n (.loop c) Q Kp a M
  | .rangeFunc f ps as c => WA x.P x.r x.D x.n (.rangeFunc f ps as c) Q Kp a M
  | _ => False
theorem O_step (h : codeStep x c Q Kp a M) : codeO x c Q Kp a M := by
  rw [codeO_eq]
  unfold codeStep at h
  simp only [normK_eq] at h
  rw [codeO_eq] at h
  cases c with
  | seq c d =>
    have e : seqQ (codeA x d Q Kp) Q = fun e a M => match e with | .normal => codeA x d Q Kp a M | e => Q e a M := by
      funext e a M; cases e <;> rfl
    simp only [e] at h; exact h
  | cond o c d =>
    simp only [condV] at h
    simp only [codeA]
    generalize evA a o = v at *
    cases v <;> first | exact h | exact h.elim
  | block id c =>
    have e : blockQ id Q = fun e a M => match e with
        | .exit id' => match Nat.beq id' id with
          | true => Q .normal a M
          | false => Q (.exit id') a M
        | e => Q e a M := by
      funext e a M; cases e <;> rfl
    simp only [e] at h; exact h
  | region id ops draw =>
    cases draw with
    | false => simp only [seqO_eq] at h; exact h
    | true =>
      simp only [codeA]
      simp only [drawO_eq, seqO_eq] at h
      split at h
      · rename_i plan ds hp
        rw [hp]
        cases plan <;> exact h
      · exact h.elim
  | _ => exact h

def seqStep (x : Cx) (ops : Array Oper) (Kp : AV → AH → Prop) (K : AA → AH → Prop) (l : List Oper) (a : AA) (M : AH) : Prop :=
  match l with
  | [] => K a M
  | o :: l => stepO x ops o a M (fun a M => seqO x ops Kp K l a M) Kp
theorem S_step {l : List Oper} (h : seqStep x ops Kp K l a M) : seqO x ops Kp K l a M := by
  rw [seqO_eq]
  cases l with
  | nil => exact h
  | cons o l => simp only [seqStep, stepO_eq, seqO_eq] at h; exact h

def loadO (T : List TI) (B : List Nat) (M0 : AH) (e : Operand → AV) (op : Op) (K : AV → Prop) : Prop :=
  match op with
  | .load t x => condT (elemN B (some (e x).id)) (loadA T M0 t (e x) K)
  | .convert s d x => condT (elemN B (some (e x).id)) (strOfA T M0 s d (e x) K)
  | .lookup t x ix ok => condT (elemN B (some (e x).id)) (lookA T M0 t (e x) (e ix) ok K)
  | .call ⟨.builtin .len, args, tys⟩ => match args.toList, tys.toList with
    | [x], [t] => condT (elemN B (some (e x).id)) (lenMapA T M0 t (e x) K)
    | _, _ => False
  | _ => False
def nthV (o : Option Oper) (p : Oper → Prop) : Prop :=
  match o with
  | some o => p o
  | none => False
def drawStep (x : Cx) (ops : Array Oper) (Kp : AV → AH → Prop) (K : AA → AH → Prop) (B : List Nat) (sk : List Nat) (l : List (Nat × Nat)) (a : AA) (M : AH) : Prop :=
  match l with
  | [] => K a M
  | (i, md) :: l => match elemN sk (some i) with
   | true => drawO x ops Kp K B sk l a M
   | false => nthV (nthO ops.toList i) fun o => match md with
    | 0 => condT (plainOp o.op) (guardA x.n ops o a (fun a => pureA x.T (elemN x.W o.dst) M (evA a) o.op fun v => putK x.n a o.dst v fun a => drawO x ops Kp K B sk l a M) (fun a => putK x.n a o.dst (.tup []) fun a => drawO x ops Kp K B sk l a M))
    | 1 => condT (plainOp o.op) (guardA x.n ops o a (fun a => loadO x.T B M (evA a) o.op fun v => putK x.n a o.dst v fun a => drawO x ops Kp K B sk l a M) (fun a => putK x.n a o.dst (.tup []) fun a => drawO x ops Kp K B sk l a M))
    | 2 => stepO x ops o a M (fun a M' => eqOnK B M M' (drawO x ops Kp K B sk l a M')) Kp
    | 3 => stepO x ops o a M (fun a M' => drawO x ops Kp K B sk l a M') Kp
    | j + 4 => nthV (nthO ops.toList j) fun oj => stepO x ops o a M (fun a M' => eqOnK B M M' (drawO x ops Kp K B sk l a M')) Kp ∧ stepO x ops oj a M (fun a M' => eqOnK B M M' (stepO x ops o a M' (fun a M'' => eqOnK B M' M'' (drawO x ops Kp K B (j :: sk) l a M'')) Kp)) Kp
theorem D_step {B : List Nat} {sk : List Nat} {l : List (Nat × Nat)} (h : drawStep x ops Kp K B sk l a M) : drawO x ops Kp K B sk l a M := by
  rw [drawO_eq]
  cases l with
  | nil => exact h
  | cons im l =>
    obtain ⟨i, md⟩ := im
    unfold drawStep at h
    simp only [putK_eq, stepO_eq] at h
    simp only [nthO_eq, Array.getElem?_toList] at h
    simp only [drawA]
    rw [drawO_eq] at h
    cases hsk : elemN sk (some i) with
    | true => rw [hsk] at h; exact h
    | false =>
    rw [hsk] at h
    simp only at h ⊢
    cases ho : ops[i]? with
    | none => rw [ho] at h; exact h.elim
    | some o =>
      rw [ho] at h
      simp only [nthV] at h
      have e : ∀ (e : Operand → AV) (op : Op) (K : AV → Prop), loadO x.T B M e op K = (match op with
        | .load t x_1 => condT (elemN B (some (e x_1).id)) (loadA x.T M t (e x_1) K)
        | .convert s d x_1 => condT (elemN B (some (e x_1).id)) (strOfA x.T M s d (e x_1) K)
        | .lookup t x_1 ix ok => condT (elemN B (some (e x_1).id)) (lookA x.T M t (e x_1) (e ix) ok K)
        | .call ⟨.builtin .len, args, tys⟩ => match args.toList, tys.toList with
          | [x_1], [t] => condT (elemN B (some (e x_1).id)) (lenMapA x.T M t (e x_1) K)
          | _, _ => False
        | _ => False) := fun e op K => rfl
      match md, h with
      | 0, h => exact h
      | 1, h => simp only [e] at h; exact h
      | 2, h => exact h
      | 3, h => exact h
      | j + 4, h =>
        simp only [nthO_eq, Array.getElem?_toList] at h
        cases hj : ops[j]? with
        | none => rw [hj] at h; exact h.elim
        | some oj => rw [hj] at h; simp only [hj]; exact h
end

theorem CallO.intro {x : Cx} (hT : TabOK x.P x.T) (hm : x.P.follows .mixedOrders = true) {g : Nat} {fn : Func} {c : Code} (hf : x.P.funcs[g]? = some fn) (hb : fn.body = some c) (hg : goodF x.P g = true) (hpl : plansB x.pl c = true) (hr : x.r = none) (hD : x.D = [])
    {args : List AV} {M : AH} {K Kp : AV → AH → Prop} (hn : fn.ntmps = x.n) (hle : Nat.ble args.length x.n = true)
    (h : codeO x c (postA x.T fn.results.toList K) Kp (initA args) M) : CallA x.P g args M K Kp := by
  rw [codeO_eq] at h
  exact CallA.intro hT hm hf hb hg hpl hr hD hn hle h

/-- What a round has to show, shut. -/
@[irreducible] def roundO {σ : Type} (I : σ → Prop) (μ : σ → Nat) (A : σ → List (Nat × AV)) (H : σ → AH) (Q : AEx → AA → AH → Prop) (k : Nat) (e : AEx) (a : AA) (M : AH) : Prop := roundV I μ A H Q k e a M

theorem WO.loop {x : Cx} {σ : Type} (I : σ → Prop) (μ : σ → Nat) (A : σ → List (Nat × AV)) (H : σ → AH) (s0 : σ)
    (hT : TabOK x.P x.T) (hm : x.P.follows .mixedOrders = true) {c : Code} (hpl : plansB x.pl c = true) {Q : AEx → AA → AH → Prop} {Kp : AV → AH → Prop} {a : AA} {M : AH}
    (h0 : ∃ l M', I s0 ∧ agr l a ∧ l.map (·.1) = (A s0).map (·.1) ∧ Vw M M' (l.map (·.2)) ((A s0).map (·.2)) ∧ subA M' (H s0)) (hlen : ∀ s, Nat.ble M.length (H s).length = true) (hA : ∀ s, nbL (H s).length (A s) = true) (hH : ∀ s, nbH (H s).length (H s))
    (hbody : ∀ s, I s → ∀ d, codeO x c (roundO I μ A H Q (μ s)) Kp (ofL (A s) d) (H s)) :
    WA x.P x.r x.D x.n (.loop c) Q Kp a M := by
  rw [codeO_eq] at hbody
  have e : ∀ k, roundO I μ A H Q k = roundV I μ A H Q k := fun k => by funext e a M; unfold roundO; rfl
  simp only [e] at hbody
  exact WA.loopV I μ A H s0 hT hm hpl h0 hlen hA hH hbody

section
variable {σ : Type} {I : σ → Prop} {μ : σ → Nat} {A : σ → List (Nat × AV)} {H : σ → AH} {Q : AEx → AA → AH → Prop} {k : Nat} {a : AA} {M : AH}
/-- The end of a round. -/
theorem RO.mk (s : σ) (l : List (Nat × AV)) (M' : AH)
    (hI : I s) (hμ : μ s < k) (hl : agr l a) (hk : l.map (·.1) = (A s).map (·.1)) (hv : Vw M M' (l.map (·.2)) ((A s).map (·.2))) (hs : subA M' (H s)) : roundO I μ A H Q k .normal a M := by
  unfold roundO
  exact ⟨s, l, M', ⟨hI, hμ⟩, hl, hk, hv, hs⟩
theorem RO.same (s : σ)
    (hI : I s) (hμ : μ s < k) (hl : agr (A s) a) (hs : subA M (H s)) : roundO I μ A H Q k .normal a M := by
  unfold roundO
  exact ⟨s, A s, M, ⟨hI, hμ⟩, hl, rfl, Vw.refl _ _, hs⟩
theorem RO.exit {id : Nat} (h : Q (.exit id) a M) : roundO I μ A H Q k (.exit id) a M := by unfold roundO; exact h
theorem RO.ret (h : Q .ret a M) : roundO I μ A H Q k .ret a M := by unfold roundO; exact h
end
/-- A loop that starts as it stands. -/
theorem WO.go {x : Cx} {σ : Type} (I : σ → Prop) (μ : σ → Nat) (A : σ → List (Nat × AV)) (H : σ → AH) (s0 : σ)
    (hT : TabOK x.P x.T) (hm : x.P.follows .mixedOrders = true) {c : Code} (hpl : plansB x.pl c = true) {Q : AEx → AA → AH → Prop} {Kp : AV → AH → Prop} {a : AA} {M : AH}
    (hI : I s0) (ha : agr (A s0) a) (hs : subA M (H s0)) (hlen : ∀ s, Nat.ble M.length (H s).length = true) (hA : ∀ s, nbL (H s).length (A s) = true) (hH : ∀ s, nbH (H s).length (H s))
    (hbody : ∀ s, I s → ∀ d, codeO x c (roundO I μ A H Q (μ s)) Kp (ofL (A s) d) (H s)) :
    WA x.P x.r x.D x.n (.loop c) Q Kp a M :=
  WO.loop I μ A H s0 hT hm hpl ⟨A s0, M, hI, ha, rfl, Vw.refl _ _, hs⟩ hlen hA hH hbody
/-- A loop that starts in another view. -/
theorem WO.gov {x : Cx} {σ : Type} (I : σ → Prop) (μ : σ → Nat) (A : σ → List (Nat × AV)) (H : σ → AH) (s0 : σ)
    (hT : TabOK x.P x.T) (hm : x.P.follows .mixedOrders = true) {c : Code} (hpl : plansB x.pl c = true) {Q : AEx → AA → AH → Prop} {Kp : AV → AH → Prop} {a : AA} {M : AH}
    (l : List (Nat × AV)) (M' : AH) (hI : I s0) (ha : agr l a) (hk : l.map (·.1) = (A s0).map (·.1)) (hv : Vw M M' (l.map (·.2)) ((A s0).map (·.2))) (hs : subA M' (H s0)) (hlen : ∀ s, Nat.ble M.length (H s).length = true) (hA : ∀ s, nbL (H s).length (A s) = true) (hH : ∀ s, nbH (H s).length (H s))
    (hbody : ∀ s, I s → ∀ d, codeO x c (roundO I μ A H Q (μ s)) Kp (ofL (A s) d) (H s)) :
    WA x.P x.r x.D x.n (.loop c) Q Kp a M :=
  WO.loop I μ A H s0 hT hm hpl ⟨l, M', hI, ha, hk, hv, hs⟩ hlen hA hH hbody
/-- A loop of few rounds, round by round. -/
def roundsQ (x : Cx) (c : Code) (Q : AEx → AA → AH → Prop) (Kp : AV → AH → Prop) : Nat → AA → AH → Prop
  | 0, _, _ => False
  | m + 1, a, M => codeO x c (seqQ (roundsQ x c Q Kp m) Q) Kp a M
theorem WO.rounds (m : Nat) {x : Cx} (hT : TabOK x.P x.T) (hm : x.P.follows .mixedOrders = true) {c : Code} (hpl : plansB x.pl c = true) {Q : AEx → AA → AH → Prop} {Kp : AV → AH → Prop} {a : AA} {M : AH}
    (h : roundsQ x c Q Kp m a M) : WA x.P x.r x.D x.n (.loop c) Q Kp a M := by
  unfold WA
  intro pin D ρ w act hof hpn hs hA
  refine wpIn_loop_rounds m ?_
  suffices hh : ∀ (m : Nat) (a : AA) (M1 : AH) (ρ1 : Env) (w1 : World) (act1 : Act) (D1 : List Deferred), Sim ρ1 M1 w1 → Ext ρ M w ρ1 M1 w1 → Marks w.heap.size D D1 w1 → ActR ρ1 D1 x.n a act1 → PinOK pin act1 → roundsQ x c Q Kp m a M1 → Code.roundsIn (FW x.r) 0 x.P c (LiftP pin ρ M w D x.n Q Kp) m act1 w1 from hh m a M ρ w act D hs (Ext.refl _ _ _) (Marks.refl _ _ _) hA hpn h
  intro m
  induction m with
  | zero => intro a M1 ρ1 w1 act1 D1 _ _ _ _ _ h; exact h.elim
  | succ m ih =>
    intro a M1 ρ1 w1 act1 D1 s1 e1 m1 a1 hpa h
    have h' : codeO x c (seqQ (roundsQ x c Q Kp m) Q) Kp a M1 := h
    rw [codeO_eq] at h'
    rw [roundsIn_succ]
    refine wpIn_mono (codeA_pin hT hm c hpl _ Kp a M1 ρ1 w1 act1 D1 s1 (Ext.refl ρ1 M1 w1) (Marks.refl _ _ _) a1 hof hpa h') fun e act2 w2 hq => ?_
    obtain ⟨hq, hpb⟩ := hq
    cases e with
    | normal =>
      obtain ⟨ρ2, M2, a2, D2, s2, e2, m2, a3, h2⟩ := hq
      exact ih a2 M2 ρ2 w2 act2 D2 s2 (e1.trans e2) (m1.trans e1.size s1 e2 m2) a3 hpb h2
    | exit id => exact ⟨LiftQ.from (e := .exit id) (Q := Q) (Kp := Kp) e1 s1 m1 hq, hpb⟩
    | ret => exact ⟨LiftQ.from (e := .ret) (Q := Q) (Kp := Kp) e1 s1 m1 hq, hpb⟩
    | panic ch => exact ⟨LiftQ.from (e := .panic ch) (n := x.n) (Q := Q) (Kp := Kp) e1 s1 m1 hq, hpb⟩
    | goto l => exact hq.elim
    | outgrown => exact hq.elim
theorem br_f {b : Bool} {p q : Prop} (h : b = false) (hq : q) : (b = true → p) ∧ (b = false → q) := by subst h; exact ⟨fun e => (by cases e), fun _ => hq⟩
theorem br_t {b : Bool} {p q : Prop} (h : b = true) (hp : p) : (b = true → p) ∧ (b = false → q) := by subst h; exact ⟨fun _ => hp, fun e => (by cases e)⟩
/-- A side condition; a branch that is decided. -/
theorem side {p : Prop} (h : p := by first | exact rfl | omega | exact Nat.le_of_ble_eq_true rfl | (dsimp only; omega) | (simp only [List.length_cons, List.length_nil, List.length_append, List.length_replicate, List.length_set, List.length_take, List.length_drop, List.length_map, List.length_range]; omega) | decide | (refine ⟨?_, ?_, ?_, ?_, ?_⟩ <;> first | exact rfl | omega | exact Nat.zero_le _ | exact Nat.le_refl _ | (dsimp only; omega) | (simp only [List.length_append, List.length_cons, List.length_nil]; omega) | (simp <;> fail) | (simp; omega)) | (refine ⟨?_, ?_, ?_⟩ <;> first | exact rfl | omega | exact Nat.le_refl _ | (dsimp only; omega) | (simp <;> fail) | (simp; omega))) : p := h
theorem sideB {p : Prop} (h : p := by first | exact rfl | decide | (simp <;> fail)) : p := h
end Go.Proofs.Yteinenklppbjkaa
