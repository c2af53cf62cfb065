/- What a walk over the ideal machine unfolds; frames. Code is walked in a lighter form: operations without marks, guards by their temporaries. -/
import Derived.Test.YtlifcjggdandnaaE29
namespace Go.Ideal

/-- An operation: where it puts, what it does, and whether. -/
structure O2 where
  dst : Option Tmp
  op : Op
  guard : Option (Tmp × Bool)

inductive C2 where
  | skip
  | ops (l : List O2)
  | drawn (l : List O2)
  | hand (ops : Array Oper)
  | seq (a b : C2)
  | cond (c : Operand) (a b : C2)
  | block (id : Nat) (a : C2)
  | loop (a : C2)
  | exit (id : Nat)
  | ret

def gconv (ops : Array Oper) : Option (Nat × Bool) → Option (Option (Tmp × Bool))
  | none => some none
  | some (j, b) => ((ops[j]?).bind (·.dst)).map fun t => some (t, b)

def oconv (ops : Array Oper) : List Oper → Option (List O2)
  | [] => some []
  | o :: l => (gconv ops o.guard).bind fun g => (oconv ops l).map (⟨o.dst, o.op, g⟩ :: ·)

/-- Code in its light form, if all that must be told of it without running it holds. -/
def cmpl (n : Nat) (ex : List Nat) : Code → Option C2
  | .skip => some .skip
  | .region id ops draw => if ops.toList.all (opOk n) then
      (if draw then (if ex.contains id then some (.hand ops) else if drawsOk ops then (oconv ops ops.toList).map .drawn else none) else (oconv ops ops.toList).map .ops) else none
  | .seq a b => (cmpl n ex a).bind fun a' => (cmpl n ex b).map fun b' => .seq a' b'
  | .cond c a b => if constOk c then (cmpl n ex a).bind fun a' => (cmpl n ex b).map fun b' => .cond c a' b' else none
  | .block id a => (cmpl n ex a).map fun a' => .block id a'
  | .loop a => (cmpl n ex a).map fun a' => .loop a'
  | .exit id => some (.exit id)
  | .ret => some .ret
  | .label _ => some .skip
  | .scope a => cmpl n ex a
  | _ => none

section
variable {P : Program} {w0 : World} {hk : Hooks} {n : Nat} {ex : List Nat} {ρ : Loc} {h : Heap} {Q : IExit → Loc → Heap → Prop} {K : Loc → Heap → Prop} {Pn : Value → Heap → Prop}

def asB : Value → Option Bool
  | .bool b => some b
  | _ => none
@[simp] theorem asB_bool (b : Bool) : asB (.bool b) = some b := rfl
@[simp] theorem asB_undef : asB undef = none := rfl
def asP : Value → Option Addr
  | .pointer (some a) => some a
  | _ => none
@[simp] theorem asP_ptr (a : Addr) : asP (.pointer (some a)) = some a := rfl
def nilCk : Value → Option Value
  | .pointer (some a) => some (.pointer (some a))
  | .func (.func f) first cap => some (.func (.func f) first cap)
  | _ => none
@[simp] theorem nilCk_ptr (a : Addr) : nilCk (.pointer (some a)) = some (.pointer (some a)) := rfl
@[simp] theorem nilCk_func (f : FuncId) (a b : Array Value) : nilCk (.func (.func f) a b) = some (.func (.func f) a b) := rfl
def asI : Value → Option Value
  | .iface t v => some (.iface t v)
  | _ => none
@[simp] theorem asI_iface (t : TypeId) (v : Value) : asI (.iface t v) = some (.iface t v) := rfl
def isMapT (P : Program) (t : TypeId) : Bool :=
  match P.underlying t with
  | some (.map _ _) => true
  | _ => false
def tupAt (i : Nat) : Value → Option Value
  | .tuple vs => vs[i]?
  | _ => none
@[simp] theorem tupAt_tuple (i : Nat) (vs : Array Value) : tupAt i (.tuple vs) = vs[i]? := rfl


def gL (ρ : Loc) : Option (Tmp × Bool) → Bool
  | none => true
  | some (t, b) => asB (ρ t) == some b

def putK (K : Loc → Heap → Prop) (ρ : Loc) (d : Option Tmp) (v : Value) (h : Heap) : Prop := K (putL ρ d v) h

def wpO (P : Program) (w0 : World) (hk : Hooks) (o : O2) (ρ : Loc) (h : Heap) (K : Loc → Heap → Prop) (Pn : Value → Heap → Prop) : Prop :=
  wpIf (gL ρ o.guard) (Sat (iop P w0 h (evL ρ) ⟨o.dst, o.op, 0, "", #[], none⟩) (wpA P w0 hk h (fun v h' => putK K ρ o.dst v h') Pn)) (putK K ρ o.dst undef h)

def wpL (P : Program) (w0 : World) (hk : Hooks) : List O2 → Loc → Heap → (IExit → Loc → Heap → Prop) → Prop
  | [], ρ, h, Q => Q .normal ρ h
  | o :: l, ρ, h, Q => wpO P w0 hk o ρ h (fun ρ' h' => wpL P w0 hk l ρ' h' Q) (fun v h' => Q (.panic v) ρ h')

def wp2 (P : Program) (w0 : World) (hk : Hooks) (n : Nat) : C2 → Loc → Heap → (IExit → Loc → Heap → Prop) → Prop
  | .skip, ρ, h, Q => Q .normal ρ h
  | .ops l, ρ, h, Q => wpL P w0 hk l ρ h Q
  | .drawn l, ρ, h, Q => wpL P w0 hk l ρ h (noPanQ Q)
  | .hand ops, ρ, h, Q => wpDraw P w0 hk n ops ρ h Q
  | .seq x y, ρ, h, Q => wp2 P w0 hk n x ρ h (thenQ (fun ρ' h' => wp2 P w0 hk n y ρ' h' Q) Q)
  | .cond c x y, ρ, h, Q => Tst (evL ρ c) fun t => wpIf t (wp2 P w0 hk n x ρ h Q) (wp2 P w0 hk n y ρ h Q)
  | .block id body, ρ, h, Q => wp2 P w0 hk n body ρ h (blockQ id Q)
  | .loop body, ρ, h, Q => ∃ k, wpRounds (wp2 P w0 hk n body) k ρ h Q
  | .exit id, ρ, h, Q => Q (.exit id) ρ h
  | .ret, ρ, h, Q => Q .ret ρ h

theorem wantL_gL {ops : Array Oper} {o : Oper} {g : Option (Tmp × Bool)} (hg : gconv ops o.guard = some g) : wantL ops ρ o = gL ρ g := by
  unfold wantL
  cases ho : o.guard with
  | none => rw [ho] at hg; simp [gconv] at hg; subst hg; rfl
  | some jb =>
    obtain ⟨j, b⟩ := jb
    rw [ho] at hg
    simp only [gconv] at hg
    obtain ⟨t, ht, rfl⟩ := Option.map_eq_some_iff.1 hg
    simp only [ht, gL]
    cases ρ t <;> rfl

theorem iop_op (o : Oper) : iop P w0 h (evL ρ) o = iop P w0 h (evL ρ) ⟨o.dst, o.op, 0, "", #[], none⟩ := rfl

theorem wpO_wpOp {ops : Array Oper} {o : Oper} {g : Option (Tmp × Bool)} (hg : gconv ops o.guard = some g) (hw : wpO P w0 hk ⟨o.dst, o.op, g⟩ ρ h K Pn) : wpOp P w0 hk ops o ρ h K Pn := by
  unfold wpOp
  rw [wantL_gL hg, iop_op]
  exact hw

theorem wpOp_mono {ops : Array Oper} {o : Oper} {K' : Loc → Heap → Prop} {Pn' : Value → Heap → Prop} (h1 : ∀ ρ h, K ρ h → K' ρ h) (h2 : ∀ v h, Pn v h → Pn' v h) (g3 : wpOp P w0 hk ops o ρ h K Pn) : wpOp P w0 hk ops o ρ h K' Pn' := by
  refine wpIf_imp g3 (fun g3 => ?_) (fun g3 => h1 _ _ g3)
  obtain ⟨r, hr, g3⟩ := g3
  refine ⟨r, hr, ?_⟩
  cases r with
  | val v h' => exact h1 _ _ g3
  | skip h' => exact h1 _ _ g3
  | panic v => exact h2 _ _ g3
  | call f args => exact Ans.mono g3 fun r h' hr => by cases r with
    | ret v => exact h1 _ _ hr
    | pan v => exact h2 _ _ hr

theorem wpL_wpR {ops : Array Oper} : ∀ (l : List Oper) (l2 : List O2), oconv ops l = some l2 → ∀ {ρ : Loc} {h : Heap} {Q : IExit → Loc → Heap → Prop}, wpL P w0 hk l2 ρ h Q → wpR P w0 hk ops l ρ h Q
  | [], l2, hc, ρ, h, Q, hw => by simp [oconv] at hc; subst hc; exact hw
  | o :: l, l2, hc, ρ, h, Q, hw => by
    simp only [oconv] at hc
    obtain ⟨g, hg, hc⟩ := Option.bind_eq_some_iff.1 hc
    obtain ⟨l3, hl, rfl⟩ := Option.map_eq_some_iff.1 hc
    exact wpOp_mono (fun ρ' h' hh => wpL_wpR l l3 hl hh) (fun v h' hh => hh) (wpO_wpOp hg hw)

theorem cmpl_ok : ∀ (c : Code) (c2 : C2), cmpl n ex c = some c2 → codeOk n ex c = true ∧ ∀ {ρ : Loc} {h : Heap} {Q : IExit → Loc → Heap → Prop}, wp2 P w0 hk n c2 ρ h Q → wp P w0 hk n ex c ρ h Q := by
  intro c
  induction c with
  | skip => intro c2 hc; simp [cmpl] at hc; subst hc; exact ⟨rfl, fun hw => hw⟩
  | exit id => intro c2 hc; simp [cmpl] at hc; subst hc; exact ⟨rfl, fun hw => hw⟩
  | ret => intro c2 hc; simp [cmpl] at hc; subst hc; exact ⟨rfl, fun hw => hw⟩
  | label l => intro c2 hc; simp [cmpl] at hc; subst hc; exact ⟨rfl, fun hw => hw⟩
  | scope c ih => intro c2 hc; exact ih c2 hc
  | region id ops draw =>
    intro c2 hc
    simp only [cmpl] at hc
    by_cases hok : ops.toList.all (opOk n) = true
    · rw [if_pos hok] at hc
      cases draw with
      | false =>
        simp only [Bool.false_eq_true, if_false] at hc
        obtain ⟨l2, hl, rfl⟩ := Option.map_eq_some_iff.1 hc
        exact ⟨hok, fun hw => wpL_wpR _ _ hl hw⟩
      | true =>
        simp only [if_true] at hc
        cases hx : ex.contains id with
        | true =>
          simp only [hx, if_true] at hc
          cases hc
          refine ⟨by simp only [codeOk, hok, hx, Bool.true_or, Bool.and_self], fun hw => ?_⟩
          show wpIf (ex.contains id) _ _
          rw [hx, wpIf_true]; exact hw
        | false =>
          simp only [hx, Bool.false_eq_true, if_false] at hc
          by_cases hd : drawsOk ops = true
          · rw [if_pos hd] at hc
            obtain ⟨l2, hl, rfl⟩ := Option.map_eq_some_iff.1 hc
            refine ⟨by simp only [codeOk, hok, hd, Bool.or_true, Bool.and_self], fun hw => ?_⟩
            show wpIf (ex.contains id) _ _
            rw [hx, wpIf_false]; exact wpL_wpR _ _ hl hw
          · rw [if_neg hd] at hc; cases hc
    · rw [if_neg hok] at hc; cases hc
  | seq x y ihx ihy =>
    intro c2 hc
    simp only [cmpl] at hc
    obtain ⟨x2, hx, hc⟩ := Option.bind_eq_some_iff.1 hc
    obtain ⟨y2, hy, rfl⟩ := Option.map_eq_some_iff.1 hc
    obtain ⟨a1, a2⟩ := ihx x2 hx
    obtain ⟨b1, b2⟩ := ihy y2 hy
    refine ⟨by simp [codeOk, a1, b1], fun {ρ h Q} hw => ?_⟩
    show wp P w0 hk n ex x ρ h (thenQ (fun ρ' h' => wp P w0 hk n ex y ρ' h' Q) Q)
    refine wp_mono (a2 (Q := thenQ (fun ρ' h' => wp2 P w0 hk n y2 ρ' h' Q) Q) hw) fun e ρ' h' he => ?_
    cases e with
    | normal => exact b2 he
    | _ => exact he
  | cond c x y ihx ihy =>
    intro c2 hc
    simp only [cmpl] at hc
    by_cases hcc : constOk c = true
    · rw [if_pos hcc] at hc
      obtain ⟨x2, hx, hc⟩ := Option.bind_eq_some_iff.1 hc
      obtain ⟨y2, hy, rfl⟩ := Option.map_eq_some_iff.1 hc
      obtain ⟨a1, a2⟩ := ihx x2 hx
      obtain ⟨b1, b2⟩ := ihy y2 hy
      refine ⟨by simp [codeOk, a1, b1, hcc], fun hw => ?_⟩
      obtain ⟨t, ht, hw⟩ := hw
      exact ⟨t, ht, wpIf_imp hw (fun hw => a2 hw) (fun hw => b2 hw)⟩
    · rw [if_neg hcc] at hc; cases hc
  | block id x ih =>
    intro c2 hc
    simp only [cmpl] at hc
    obtain ⟨x2, hx, rfl⟩ := Option.map_eq_some_iff.1 hc
    obtain ⟨a1, a2⟩ := ih x2 hx
    exact ⟨a1, fun hw => a2 hw⟩
  | loop x ih =>
    intro c2 hc
    simp only [cmpl] at hc
    obtain ⟨x2, hx, rfl⟩ := Option.map_eq_some_iff.1 hc
    obtain ⟨a1, a2⟩ := ih x2 hx
    refine ⟨a1, fun hw => ?_⟩
    obtain ⟨k, hw⟩ := hw
    refine ⟨k, ?_⟩
    rename_i ρ h Q
    induction k generalizing ρ h with
    | zero => exact hw
    | succ k ihk =>
      refine wp_mono (a2 hw) fun e ρ' h' he => ?_
      cases e with
      | normal => exact ihk he
      | _ => exact he
  | _ => intro c2 hc; simp [cmpl] at hc

/-- A function, in its light form. -/
def Cmp (P : Program) (f : FuncId) (n : Nat) (c2 : C2) (rs : List ResultVar) : Prop :=
  ∃ (fn : Func) (body : Code) (ex : List Nat), P.funcs[f]? = some fn ∧ fn.body = some body ∧ fn.ntmps = n ∧ cmpl n ex body = some c2 ∧ fn.results.toList = rs

theorem Cmp.of (ex : List Nat) {f : FuncId} {fn : Func} {body : Code} {c2 : C2} {rs : List ResultVar} (h1 : P.funcs[f]? = some fn) (h2 : fn.body = some body) (h3 : fn.ntmps = n) (h4 : cmpl n ex body = some c2) (h5 : fn.results.toList = rs) : Cmp P f n c2 rs :=
  ⟨fn, body, ex, h1, h2, h3, h4, h5⟩

theorem Ans.run {f : FuncId} {args : List Value} {Ψ : IRet → Heap → Prop} (hf : hk f = none) {c2 : C2} {rs : List ResultVar} (hc : Cmp P f n c2 rs) (hlen : args.length ≤ n)
    (hw : wp2 P w0 hk n c2 (argL args) h (retQ P w0 rs Ψ)) : Ans P w0 hk f args h Ψ := by
  obtain ⟨fn, body, ex, h1, h2, rfl, h4, rfl⟩ := hc
  obtain ⟨g1, g2⟩ := cmpl_ok (P := P) (w0 := w0) (hk := hk) body c2 h4
  exact Ans.of hf ex h1 h2 g1 hlen (g2 hw)

/-! ### Loops -/

theorem wp2_mono {c : C2} {Q' : IExit → Loc → Heap → Prop} (hw : wp2 P w0 hk n c ρ h Q) (hq : ∀ e ρ' h', Q e ρ' h' → Q' e ρ' h') : wp2 P w0 hk n c ρ h Q' := by
  have opm : ∀ (o : O2) (ρ : Loc) (h : Heap) (K K' : Loc → Heap → Prop) (Pn Pn' : Value → Heap → Prop), (∀ ρ h, K ρ h → K' ρ h) → (∀ v h, Pn v h → Pn' v h) → wpO P w0 hk o ρ h K Pn → wpO P w0 hk o ρ h K' Pn' := by
    intro o ρ h K K' Pn Pn' h1 h2 g3
    refine wpIf_imp g3 (fun g3 => ?_) (fun g3 => h1 _ _ g3)
    obtain ⟨r, hr, g3⟩ := g3
    refine ⟨r, hr, ?_⟩
    cases r with
    | val v h' => exact h1 _ _ g3
    | skip h' => exact h1 _ _ g3
    | panic v => exact h2 _ _ g3
    | call f args => exact Ans.mono g3 fun r h' hr => by cases r with
      | ret v => exact h1 _ _ hr
      | pan v => exact h2 _ _ hr
  have rm : ∀ (l : List O2) (ρ : Loc) (h : Heap) (Q Q' : IExit → Loc → Heap → Prop), (∀ e ρ' h', Q e ρ' h' → Q' e ρ' h') → wpL P w0 hk l ρ h Q → wpL P w0 hk l ρ h Q' := by
    intro l
    induction l with
    | nil => intro ρ h Q Q' hq hw; exact hq _ _ _ hw
    | cons o l ih => intro ρ h Q Q' hq hw; exact opm o ρ h _ _ _ _ (fun ρ h hw => ih ρ h Q Q' hq hw) (fun v h hw => hq _ _ _ hw) hw
  induction c generalizing ρ h Q Q' with
  | skip => exact hq _ _ _ hw
  | exit id => exact hq _ _ _ hw
  | ret => exact hq _ _ _ hw
  | ops l => exact rm _ ρ h Q Q' hq hw
  | drawn l =>
    refine rm _ ρ h _ _ (fun e ρ' h' he => ?_) hw
    cases e with
    | normal => exact hq _ _ _ he
    | _ => exact he.elim
  | hand ops =>
    intro a hl
    obtain ⟨e, a', h', ρ', g1, g2, g3⟩ := hw a hl
    exact ⟨e, a', h', ρ', g1, g2, hq _ _ _ g3⟩
  | seq x y ihx ihy =>
    refine ihx hw fun e ρ' h' he => ?_
    cases e with
    | normal => exact ihy he hq
    | _ => exact hq _ _ _ he
  | cond c x y ihx ihy =>
    obtain ⟨t, ht, hw⟩ := hw
    exact ⟨t, ht, wpIf_imp hw (fun hw => ihx hw hq) (fun hw => ihy hw hq)⟩
  | block id body ih =>
    refine ih hw fun e ρ' h' he => ?_
    cases e with
    | exit id' => exact hq _ _ _ he
    | _ => exact hq _ _ _ he
  | loop body ih =>
    obtain ⟨k, hw⟩ := hw
    refine ⟨k, ?_⟩
    induction k generalizing ρ h with
    | zero => exact hw
    | succ k ihk =>
      refine ih hw fun e ρ' h' he => ?_
      cases e with
      | normal => exact ihk he
      | _ => exact hq _ _ _ he

/-- A loop that stands ahead. -/
def LoopT (P : Program) (w0 : World) (hk : Hooks) (n : Nat) (body : C2) (ρ : Loc) (h : Heap) (Q : IExit → Loc → Heap → Prop) (_t : Tag body := .mk) (_u : Tag ρ := .mk) (_v : Tag Q := .mk) : Prop := wp2 P w0 hk n (.loop body) ρ h Q

/-- A loop, by what holds ahead of each round; 'k' falls. (The law is told under another name, so that no 'simp' looks into it.) -/
theorem wp_rounds {body : C2} (I : Nat → Loc → Heap → Prop)
    (step : ∀ I', I' = I → ∀ k ρ h, I k ρ h → wp2 P w0 hk n body ρ h (thenQ (Again I' k) Q)) {k : Nat} (h0 : I k ρ h) : LoopT P w0 hk n body ρ h Q := by
  have key : ∀ m k ρ h, k < m → I k ρ h → wpRounds (wp2 P w0 hk n body) m ρ h Q := by
    intro m
    induction m with
    | zero => intro k ρ h hk; omega
    | succ m ih =>
      intro k ρ h hk hi
      refine wp2_mono (step I rfl k ρ h hi) fun e ρ' h' he => ?_
      cases e with
      | normal => obtain ⟨j, hj, hi'⟩ := he; exact ih j ρ' h' (by omega) hi'
      | _ => exact he
  exact ⟨k + 1, key (k + 1) k ρ h (by omega) h0⟩

/-! ### What a walk unfolds, piece by piece -/

theorem Sat.none_iff {α : Type} (G : α → Prop) : Sat none G = False := by simp [Sat]
attribute [simp] Sat.some_iff Sat.map_iff Sat.bind_iff Sat.ite_iff Sat.ite_iff' Sat.none_iff Tst_bool wpIf_true wpIf_false

def Let (v : Value) (G : Value → Prop) (_t : Tag G := .mk) : Prop := G v
@[simp] theorem Let_eq (v : Value) (G : Value → Prop) : Let v G = G v := rfl

@[simp ↓] theorem wp2_skip : wp2 P w0 hk n .skip ρ h Q = Q .normal ρ h := rfl
@[simp ↓] theorem wp2_ops (l : List O2) : wp2 P w0 hk n (.ops l) ρ h Q = wpL P w0 hk l ρ h Q := rfl
@[simp ↓] theorem wp2_drawn (l : List O2) : wp2 P w0 hk n (.drawn l) ρ h Q = wpL P w0 hk l ρ h (noPanQ Q) := rfl
@[simp ↓] theorem wp2_hand (ops : Array Oper) : wp2 P w0 hk n (.hand ops) ρ h Q = wpDraw P w0 hk n ops ρ h Q := rfl
@[simp ↓] theorem wp2_seq (x y : C2) : wp2 P w0 hk n (.seq x y) ρ h Q = wp2 P w0 hk n x ρ h (thenQ (fun ρ' h' => wp2 P w0 hk n y ρ' h' Q) Q) := rfl
@[simp ↓] theorem wp2_cond (c : Operand) (x y : C2) : wp2 P w0 hk n (.cond c x y) ρ h Q = Tst (evL ρ c) fun t => wpIf t (wp2 P w0 hk n x ρ h Q) (wp2 P w0 hk n y ρ h Q) := rfl
@[simp ↓] theorem wp2_block (id : Nat) (c : C2) : wp2 P w0 hk n (.block id c) ρ h Q = wp2 P w0 hk n c ρ h (blockQ id Q) := rfl
@[simp ↓] theorem wp2_exit (id : Nat) : wp2 P w0 hk n (.exit id) ρ h Q = Q (.exit id) ρ h := rfl
@[simp ↓] theorem wp2_ret : wp2 P w0 hk n .ret ρ h Q = Q .ret ρ h := rfl
@[simp ↓] theorem wp2_loop (c : C2) : wp2 P w0 hk n (.loop c) ρ h Q = LoopT P w0 hk n c ρ h Q := rfl
@[simp ↓] theorem wpL_nil : wpL P w0 hk [] ρ h Q = Q .normal ρ h := rfl
@[simp ↓] theorem wpL_cons (o : O2) (l : List O2) : wpL P w0 hk (o :: l) ρ h Q = wpO P w0 hk o ρ h (fun ρ' h' => wpL P w0 hk l ρ' h' Q) (fun v h' => Q (.panic v) ρ h') := rfl
@[simp ↓] theorem thenQ_normal : thenQ K Q .normal ρ h = K ρ h := rfl
@[simp ↓] theorem thenQ_exit (id : Nat) : thenQ K Q (.exit id) ρ h = Q (.exit id) ρ h := rfl
@[simp ↓] theorem thenQ_ret : thenQ K Q .ret ρ h = Q .ret ρ h := rfl
@[simp ↓] theorem thenQ_panic (v : Value) : thenQ K Q (.panic v) ρ h = Q (.panic v) ρ h := rfl
@[simp ↓] theorem blockQ_normal (id : Nat) : blockQ id Q .normal ρ h = Q .normal ρ h := rfl
@[simp ↓] theorem blockQ_self (id : Nat) : blockQ id Q (.exit id) ρ h = Q .normal ρ h := by simp [blockQ]
def exitQ (b : Bool) (id' : Nat) (Q : IExit → Loc → Heap → Prop) (ρ : Loc) (h : Heap) (_t : Tag Q := .mk) (_u : Tag ρ := .mk) : Prop := Q (bif b then .normal else .exit id') ρ h
theorem blockQ_exit (id id' : Nat) : blockQ id Q (.exit id') ρ h = exitQ (decide (id' = id)) id' Q ρ h := by
  unfold blockQ exitQ
  by_cases hh : id' = id <;> simp [hh]
@[simp] theorem exitQ_true (id' : Nat) : exitQ true id' Q ρ h = Q .normal ρ h := rfl
@[simp] theorem exitQ_false (id' : Nat) : exitQ false id' Q ρ h = Q (.exit id') ρ h := rfl
attribute [simp ↓ low] blockQ_exit
@[simp ↓] theorem blockQ_ret (id : Nat) : blockQ id Q .ret ρ h = Q .ret ρ h := rfl
@[simp ↓] theorem blockQ_panic (id : Nat) (v : Value) : blockQ id Q (.panic v) ρ h = Q (.panic v) ρ h := rfl
@[simp ↓] theorem noPanQ_normal : noPanQ Q .normal ρ h = Q .normal ρ h := rfl
@[simp ↓] theorem noPanQ_panic (v : Value) : noPanQ Q (.panic v) ρ h = False := rfl
@[simp ↓] theorem retQ_normal (rs : List ResultVar) (Ψ : IRet → Heap → Prop) : retQ P w0 rs Ψ .normal ρ h = Sat (resL P w0 h ρ rs) fun vs => Ψ (.ret (one vs)) h := rfl
@[simp ↓] theorem retQ_ret (rs : List ResultVar) (Ψ : IRet → Heap → Prop) : retQ P w0 rs Ψ .ret ρ h = Sat (resL P w0 h ρ rs) fun vs => Ψ (.ret (one vs)) h := rfl
@[simp ↓] theorem retQ_panic (rs : List ResultVar) (Ψ : IRet → Heap → Prop) (v : Value) : retQ P w0 rs Ψ (.panic v) ρ h = Ψ (.pan v) h := rfl
@[simp] theorem resL_nil : resL P w0 h ρ [] = some [] := rfl
@[simp] theorem resL_cons (r : ResultVar) (rs : List ResultVar) : resL P w0 h ρ (r :: rs) = (resV P w0 h ρ r).bind fun v => (resL P w0 h ρ rs).bind fun vs => some (v :: vs) := rfl
@[simp] theorem resV_tmp (t : Nat) : resV P w0 h ρ (.tmp t) = some (ρ t) := rfl
@[simp] theorem one_one (v : Value) : one [v] = v := rfl
@[simp] theorem one_two (v u : Value) : one [v, u] = .tuple #[v, u] := rfl
@[simp] theorem one_three (v u x : Value) : one [v, u, x] = .tuple #[v, u, x] := rfl
@[simp] theorem one_nil : one [] = .tuple #[] := rfl
@[simp] theorem evL_tmp (t : Nat) : evL ρ (.tmp t) = ρ t := rfl
@[simp] theorem evL_const (v : Value) : evL ρ (.const v) = v := rfl
@[simp] theorem evL_func (f : FuncId) : evL ρ (.func f) = .func (.func f) #[] #[] := rfl
@[simp ↓] theorem putK_some (t : Nat) (v : Value) : putK K ρ (some t) v h = K (upd ρ t v) h := rfl
@[simp ↓] theorem putK_none (v : Value) : putK K ρ none v h = K ρ h := rfl
@[simp] theorem argL_app (args : List Value) (t : Nat) : argL args t = args.getD t undef := rfl
@[simp ↓] theorem ansQ_ret {K Pn : Value → Heap → Prop} (v : Value) : ansQ K Pn (.ret v) h = K v h := rfl
@[simp ↓] theorem ansQ_pan {K Pn : Value → Heap → Prop} (v : Value) : ansQ K Pn (.pan v) h = Pn v h := rfl
@[simp ↓] theorem wpA_val {K Pn : Value → Heap → Prop} (v : Value) (h' : Heap) : wpA P w0 hk h K Pn (.val v h') = K v h' := rfl
@[simp ↓] theorem wpA_skip {K Pn : Value → Heap → Prop} (h' : Heap) : wpA P w0 hk h K Pn (.skip h') = K undef h' := rfl
@[simp ↓] theorem wpA_call {K Pn : Value → Heap → Prop} (f : FuncId) (args : List Value) : wpA P w0 hk h K Pn (.call f args) = Ans P w0 hk f args h (ansQ K Pn) := rfl
@[simp ↓] theorem wpA_panic {K Pn : Value → Heap → Prop} (v : Value) : wpA P w0 hk h K Pn (.panic v) = Pn v h := rfl

variable {d : Option Tmp}
@[simp ↓] theorem wpO_guard {op : Op} {t : Tmp} {b : Bool} : wpO P w0 hk ⟨d, op, some (t, b)⟩ ρ h K Pn = wpIf (asB (ρ t) == some b) (wpO P w0 hk ⟨d, op, none⟩ ρ h K Pn) (putK K ρ d undef h) := by
  have e : wpO P w0 hk ⟨d, op, none⟩ ρ h K Pn = Sat (iop P w0 h (evL ρ) ⟨d, op, 0, "", #[], none⟩) (wpA P w0 hk h (fun v h' => putK K ρ d v h') Pn) := by
    show wpIf true _ _ = _
    rw [wpIf_true]
  rw [e]
  rfl

theorem wpO_eq {op : Op} {x : Option IRes} (hx : iop P w0 h (evL ρ) ⟨d, op, 0, "", #[], none⟩ = x) : wpO P w0 hk ⟨d, op, none⟩ ρ h K Pn = Sat x (wpA P w0 hk h (fun v h' => putK K ρ d v h') Pn) := by
  show wpIf true _ _ = _
  rw [wpIf_true, hx]
theorem wpO_v {op : Op} {x : Option Value} (hx : iop P w0 h (evL ρ) ⟨d, op, 0, "", #[], none⟩ = x.map (.val · h)) : wpO P w0 hk ⟨d, op, none⟩ ρ h K Pn = Sat x (fun v => putK K ρ d v h) := by
  rw [wpO_eq hx, Sat.map_iff]; rfl

@[simp ↓] theorem wpO_move (x : Operand) : wpO P w0 hk ⟨d, .move x, none⟩ ρ h K Pn = Let (evL ρ x) (fun v => putK K ρ d v h) := by rw [wpO_eq (x := some (.val (evL ρ x) h)) rfl, Sat.some_iff]; rfl
@[simp ↓] theorem wpO_assign (x : Operand) : wpO P w0 hk ⟨d, .assign x, none⟩ ρ h K Pn = Let (evL ρ x) (fun v => putK K ρ d v h) := by rw [wpO_eq (x := some (.val (evL ρ x) h)) rfl, Sat.some_iff]; rfl
@[simp ↓] theorem wpO_pick (c x y : Operand) : wpO P w0 hk ⟨d, .pick c x y, none⟩ ρ h K Pn = Sat (asB (evL ρ c)) (fun t => Let (bif t then evL ρ x else evL ρ y) (fun v => putK K ρ d v h)) := by
  rw [wpO_v (x := (asB (evL ρ c)).map fun t => bif t then evL ρ x else evL ρ y) (by simp only [iop]; cases evL ρ c <;> rfl), Sat.map_iff]; rfl
@[simp ↓] theorem wpO_alloc (e : TypeId) : wpO P w0 hk ⟨d, .alloc e, none⟩ ρ h K Pn = Sat (izero P e) (fun z => putK K ρ d (.pointer (some ⟨h.length, 0, some 0⟩)) (h ++ [.row z e 0])) := by
  rw [wpO_eq (x := (izero P e).map fun z => .val (ialloc h e z).1 (ialloc h e z).2) rfl, Sat.map_iff]; rfl
@[simp ↓] theorem wpO_box (e : TypeId) (x : Operand) : wpO P w0 hk ⟨d, .box e x, none⟩ ρ h K Pn = Let (evL ρ x) (fun v => (vcells v).all leaf = true ∧ putK K ρ d (.pointer (some ⟨h.length, 0, some 0⟩)) (h ++ [.row (vcells v) e 0])) := by
  rw [wpO_eq (x := if (vcells (evL ρ x)).all leaf then some (.val (ialloc h e (vcells (evL ρ x))).1 (ialloc h e (vcells (evL ρ x))).2) else none) rfl, Sat.ite_iff, Sat.some_iff]; rfl
@[simp ↓] theorem wpO_build (t : TypeId) (parts : Array (Nat × Operand)) : wpO P w0 hk ⟨d, .build t parts, none⟩ ρ h K Pn = Sat (ibuild P t (parts.toList.map fun p => (p.1, evL ρ p.2))) (fun v => putK K ρ d v h) := wpO_v rfl
@[simp ↓] theorem wpO_buildSlice (t : TypeId) (len : Nat) (parts : Array (Nat × Operand)) : wpO P w0 hk ⟨d, .buildSlice t len parts, none⟩ ρ h K Pn = Sat (ibuildSlice P h t len (parts.toList.map fun p => (p.1, evL ρ p.2))) (wpA P w0 hk h (fun v h' => putK K ρ d v h') Pn) := wpO_eq rfl
@[simp ↓] theorem wpO_load (t : TypeId) (x : Operand) : wpO P w0 hk ⟨d, .load t x, none⟩ ρ h K Pn = Sat (asP (evL ρ x)) (fun a => Sat (iload P w0 h t a) fun v => putK K ρ d v h) := by
  rw [wpO_v (x := (asP (evL ρ x)).bind fun a => iload P w0 h t a) (by
    simp only [iop]
    cases evL ρ x with
    | pointer a => cases a <;> rfl
    | _ => rfl), Sat.bind_iff]
@[simp ↓] theorem wpO_store (t : TypeId) (x y : Operand) : wpO P w0 hk ⟨d, .store t x y, none⟩ ρ h K Pn = Sat (asP (evL ρ x)) (fun a => Sat (istore P h t a (evL ρ y)) fun h' => putK K ρ d undef h') := by
  rw [wpO_eq (x := (asP (evL ρ x)).bind fun a => (istore P h t a (evL ρ y)).map .skip) (by
    simp only [iop]
    cases evL ρ x with
    | pointer a => cases a <;> rfl
    | _ => rfl), Sat.bind_iff]
  have e : ∀ a, Sat ((istore P h t a (evL ρ y)).map IRes.skip) (wpA P w0 hk h (fun v h' => putK K ρ d v h') Pn) = Sat (istore P h t a (evL ρ y)) fun h' => putK K ρ d undef h' := fun a => by rw [Sat.map_iff]; rfl
  rw [show (fun a => Sat ((istore P h t a (evL ρ y)).map IRes.skip) (wpA P w0 hk h (fun v h' => putK K ρ d v h') Pn)) = fun a => Sat (istore P h t a (evL ρ y)) fun h' => putK K ρ d undef h' from funext e]
@[simp ↓] theorem wpO_nilCheck (x : Operand) : wpO P w0 hk ⟨d, .nilCheck x, none⟩ ρ h K Pn = Sat (nilCk (evL ρ x)) (fun v => putK K ρ d v h) := by
  refine wpO_v ?_
  simp only [iop]
  cases evL ρ x with
  | pointer a => cases a <;> rfl
  | func f a b => cases f <;> rfl
  | _ => rfl
@[simp ↓] theorem wpO_binOp (op : BinOp) (t t2 : TypeId) (x y : Operand) : wpO P w0 hk ⟨d, .binOp op t x y t2, none⟩ ρ h K Pn = Sat (ibin P op t (evL ρ x) (evL ρ y)) (fun v => putK K ρ d v h) := wpO_v rfl
@[simp ↓] theorem wpO_unOp (op : UnOp) (t : TypeId) (x : Operand) : wpO P w0 hk ⟨d, .unOp op t x, none⟩ ρ h K Pn = Sat (iun op (evL ρ x)) (fun v => putK K ρ d v h) := wpO_v rfl
@[simp ↓] theorem wpO_convert (s t : TypeId) (x : Operand) : wpO P w0 hk ⟨d, .convert s t x, none⟩ ρ h K Pn = Sat (iconvert P s t (evL ρ x)) (fun v => putK K ρ d v h) := wpO_v rfl
@[simp ↓] theorem wpO_makeFunc (f : FuncId) (first cap : Array Operand) : wpO P w0 hk ⟨d, .makeFunc (.func f) first cap, none⟩ ρ h K Pn = Let (.func (.func f) (first.map (evL ρ)) (cap.map (evL ρ))) (fun v => putK K ρ d v h) := by
  rw [wpO_eq (x := some (.val (.func (.func f) (first.map (evL ρ)) (cap.map (evL ρ))) h)) rfl, Sat.some_iff]; rfl
def mkIface (P : Program) (t : TypeId) (v : Value) : Option Value :=
  match P.underlying t with
  | some (.interface _) => none
  | some _ => some (.iface t v)
  | none => none
@[simp ↓] theorem wpO_makeInterface (t : TypeId) (x : Operand) : wpO P w0 hk ⟨d, .makeInterface t x, none⟩ ρ h K Pn = Sat (mkIface P t (evL ρ x)) (fun v => putK K ρ d v h) := by
  refine wpO_v ?_
  simp only [iop, mkIface]
  cases P.underlying t with
  | none => rfl
  | some x => cases x <;> rfl
@[simp ↓] theorem wpO_makeSlice (t : TypeId) (l c : Operand) : wpO P w0 hk ⟨d, .makeSlice t l c, none⟩ ρ h K Pn = Sat (imakeSlice P h t (evL ρ l) (evL ρ c)) (wpA P w0 hk h (fun v h' => putK K ρ d v h') Pn) := wpO_eq rfl
@[simp ↓] theorem wpO_slice (t : TypeId) (x : Operand) (lo hi mx : Option Operand) : wpO P w0 hk ⟨d, .slice t x lo hi mx, none⟩ ρ h K Pn = Sat (islice P h t (evL ρ x) (lo.map (evL ρ)) (hi.map (evL ρ)) (mx.map (evL ρ))) (fun v => putK K ρ d v h) := wpO_v rfl
@[simp ↓] theorem wpO_fieldAddr (t : TypeId) (x : Operand) (k : Nat) : wpO P w0 hk ⟨d, .fieldAddr t x k, none⟩ ρ h K Pn = Sat (ifieldAddr P t (evL ρ x) k) (fun v => putK K ρ d v h) := wpO_v rfl
@[simp ↓] theorem wpO_field (t : TypeId) (x : Operand) (k : Nat) : wpO P w0 hk ⟨d, .field t x k, none⟩ ρ h K Pn = Sat (ifield P t (evL ρ x) k) (fun v => putK K ρ d v h) := wpO_v rfl
@[simp ↓] theorem wpO_indexAddr (t : TypeId) (x i : Operand) : wpO P w0 hk ⟨d, .indexAddr t x i, none⟩ ρ h K Pn = Sat (iindexAddr P t (evL ρ x) (evL ρ i)) (fun v => putK K ρ d v h) := wpO_v rfl
@[simp ↓] theorem wpO_index (t : TypeId) (x i : Operand) : wpO P w0 hk ⟨d, .index t x i, none⟩ ρ h K Pn = Sat (iindex P t (evL ρ x) (evL ρ i)) (fun v => putK K ρ d v h) := wpO_v rfl
@[simp ↓] theorem wpO_lookup (t : TypeId) (x i : Operand) (ok : Bool) : wpO P w0 hk ⟨d, .lookup t x i ok, none⟩ ρ h K Pn = Sat (ilookup P h t (evL ρ x) (evL ρ i) ok) (fun v => putK K ρ d v h) := wpO_v rfl
@[simp ↓] theorem wpO_mapUpdate (t : TypeId) (m k x : Operand) : wpO P w0 hk ⟨d, .mapUpdate t m k x, none⟩ ρ h K Pn = Sat (imapUpdate P h t (evL ρ m) (evL ρ k) (evL ρ x)) (fun h' => putK K ρ d undef h') := by
  rw [wpO_eq (x := (imapUpdate P h t (evL ρ m) (evL ρ k) (evL ρ x)).map .skip) rfl, Sat.map_iff]; rfl
@[simp ↓] theorem wpO_extract (t : Operand) (i : Nat) : wpO P w0 hk ⟨d, .extract t i, none⟩ ρ h K Pn = Sat (tupAt i (evL ρ t)) (fun v => putK K ρ d v h) := by
  refine wpO_v ?_
  simp only [iop]
  cases evL ρ t <;> rfl
@[simp ↓] theorem wpO_typeAssert (x : Operand) (s t : TypeId) (ok : Bool) : wpO P w0 hk ⟨d, .typeAssert x s t ok, none⟩ ρ h K Pn = Sat (itypeAssert P (evL ρ x) t ok) (fun v => putK K ρ d v h) := wpO_v rfl
@[simp ↓] theorem wpO_call (f : Operand) (args : Array Operand) (ts : Array TypeId) : wpO P w0 hk ⟨d, .call ⟨.value f, args, ts⟩, none⟩ ρ h K Pn = Sat (icall P (evL ρ f) (args.toList.map (evL ρ))) (wpA P w0 hk h (fun v h' => putK K ρ d v h') Pn) := wpO_eq rfl
@[simp ↓] theorem wpO_len (x : Operand) (t : TypeId) : wpO P w0 hk ⟨d, .call ⟨.builtin .len, #[x], #[t]⟩, none⟩ ρ h K Pn = Sat (ilenB P t (evL ρ x)) (fun v => putK K ρ d v h) := wpO_v rfl
@[simp ↓] theorem wpO_append (s x : Operand) (t tx : TypeId) : wpO P w0 hk ⟨d, .call ⟨.builtin .append, #[s, x], #[t, tx]⟩, none⟩ ρ h K Pn = Sat (iappend P w0 h t tx (evL ρ s) (evL ρ x)) (wpA P w0 hk h (fun v h' => putK K ρ d v h') Pn) := wpO_eq rfl
@[simp ↓] theorem wpO_copy (s x : Operand) (t tx : TypeId) : wpO P w0 hk ⟨d, .call ⟨.builtin .copy, #[s, x], #[t, tx]⟩, none⟩ ρ h K Pn = Sat (icopy P w0 h t (evL ρ s) (evL ρ x)) (wpA P w0 hk h (fun v h' => putK K ρ d v h') Pn) := wpO_eq rfl
@[simp ↓] theorem wpO_max (args : Array Operand) (ts : Array TypeId) : wpO P w0 hk ⟨d, .call ⟨.builtin .max, args, ts⟩, none⟩ ρ h K Pn = Sat (iminmax true (args.toList.map (evL ρ))) (fun v => putK K ρ d v h) := by
  refine wpO_v ?_
  simp only [iop, ibuiltin]
@[simp ↓] theorem wpO_min (args : Array Operand) (ts : Array TypeId) : wpO P w0 hk ⟨d, .call ⟨.builtin .min, args, ts⟩, none⟩ ρ h K Pn = Sat (iminmax false (args.toList.map (evL ρ))) (fun v => putK K ρ d v h) := by
  refine wpO_v ?_
  simp only [iop, ibuiltin]
theorem wpO_builtin (b : Builtin) (args : Array Operand) (ts : Array TypeId) : wpO P w0 hk ⟨d, .call ⟨.builtin b, args, ts⟩, none⟩ ρ h K Pn = Sat (ibuiltin P w0 h b ts.toList (args.toList.map (evL ρ))) (wpA P w0 hk h (fun v h' => putK K ρ d v h') Pn) := wpO_eq rfl
@[simp ↓] theorem wpO_makeMap (t : TypeId) : wpO P w0 hk ⟨d, .makeMap t none, none⟩ ρ h K Pn = (isMapT P t = true ∧ putK K ρ d (.map (some h.length)) (h ++ [.map []])) := by
  rw [wpO_eq (x := if isMapT P t = true then some (.val (.map (some h.length)) (h ++ [.map []])) else none) (by
    simp only [iop, isMapT, Option.map_none]
    split <;> simp_all), Sat.ite_iff, Sat.some_iff]
  rfl
@[simp ↓] theorem wpO_panic (x : Operand) : wpO P w0 hk ⟨d, .panic x, none⟩ ρ h K Pn = Sat (asI (evL ρ x)) (fun v => Pn v h) := by
  rw [wpO_eq (x := (asI (evL ρ x)).map .panic) (by simp only [iop]; cases evL ρ x <;> rfl), Sat.map_iff]; rfl

/-! A draw that is walked by hand. -/
def wpTL (P : Program) (w0 : World) (hk : Hooks) : List O2 → List RecL → Loc → Heap → (List RecL → Loc → Heap → Prop) → Prop
  | [], tr, ρ, h, K => K tr ρ h
  | o :: l, tr, ρ, h, K => wpO P w0 hk o ρ h (fun ρ' h' => wpTL P w0 hk l (tr ++ [(ρ, h, h')]) ρ' h' K) (fun _ _ => False)
@[simp ↓] theorem wpTL_nil {tr : List RecL} {K : List RecL → Loc → Heap → Prop} : wpTL P w0 hk [] tr ρ h K = K tr ρ h := rfl
@[simp ↓] theorem wpTL_cons (o : O2) (l : List O2) {tr : List RecL} {K : List RecL → Loc → Heap → Prop} : wpTL P w0 hk (o :: l) tr ρ h K = wpO P w0 hk o ρ h (fun ρ' h' => wpTL P w0 hk l (tr ++ [(ρ, h, h')]) ρ' h' K) (fun _ _ => False) := rfl

theorem wpTL_wpT {ops : Array Oper} : ∀ (l : List Oper) (l2 : List O2), oconv ops l = some l2 → ∀ {tr : List RecL} {ρ : Loc} {h : Heap} {K : List RecL → Loc → Heap → Prop}, wpTL P w0 hk l2 tr ρ h K → wpT P w0 hk ops l tr ρ h K
  | [], l2, hc, tr, ρ, h, K, hw => by simp [oconv] at hc; subst hc; exact hw
  | o :: l, l2, hc, tr, ρ, h, K, hw => by
    simp only [oconv] at hc
    obtain ⟨g, hg, hc⟩ := Option.bind_eq_some_iff.1 hc
    obtain ⟨l3, hl, rfl⟩ := Option.map_eq_some_iff.1 hc
    exact wpOp_mono (fun ρ' h' hh => wpTL_wpT l l3 hl hh) (fun v h' hh => hh) (wpO_wpOp hg hw)

/-- What is to be told of the pairs that are left open. -/
def Opens (P : Program) (w0 : World) (ops : Array Oper) (ps : List (Nat × Nat)) (tr : List RecL) (_t : Tag ops := .mk) (_u : Tag tr := .mk) : Prop := ∀ p ∈ ps, chkL P w0 ops tr p.1 p.2

theorem revalL_load {o : Oper} {T : TypeId} {x : Operand} {a : Addr} {v : Value} {h2 : Heap} (ho : o.op = .load T x) (hx : evL ρ x = .pointer (some a)) (h1 : iload P w0 h T a = some v) (h3 : iload P w0 h2 T a = some v) : revalL P w0 o ρ h h2 := by
  refine ⟨v, h, h2, ?_, ?_⟩
  · unfold iop; rw [ho]; simp only [hx, h1, Option.map_some]
  · unfold iop; rw [ho]; simp only [hx, h3, Option.map_some]

theorem wpDraw_light {ops : Array Oper} {ps : List (Nat × Nat)} {l2 : List O2} (hok : ops.toList.all (opOk n) = true) (hs : (drawOk ops.toList && backOk ops.toList) = true) (hp : openPairs ops.toList = ps) (hc : oconv ops ops.toList = some l2)
    (hw : wpTL P w0 hk l2 [] ρ h (fun tr ρ' h' => Opens P w0 ops ps tr ∧ Q .normal ρ' h')) : wpDraw P w0 hk n ops ρ h Q :=
  wpDraw_open hok hs hp (wpTL_wpT _ _ hc hw)
end

section
variable {P : Program} {t : TypeId} {k : IntKind} {a b : Int} {h : Heap}
@[simp] theorem ibin_add : ibin P .add t (.int k a) (.int k b) = some (.int k (k.wrap (a + b))) := by simp [ibin, iint]
@[simp] theorem ibin_sub : ibin P .sub t (.int k a) (.int k b) = some (.int k (k.wrap (a - b))) := by simp [ibin, iint]
@[simp] theorem ibin_mul : ibin P .mul t (.int k a) (.int k b) = some (.int k (k.wrap (a * b))) := by simp [ibin, iint]
@[simp] theorem ibin_quo : ibin P .quo t (.int k a) (.int k b) = if b = 0 then none else some (.int k (k.wrap (a.tdiv b))) := by simp [ibin, iint]
@[simp] theorem ibin_rem : ibin P .rem t (.int k a) (.int k b) = if b = 0 then none else some (.int k (a.tmod b)) := by simp [ibin, iint]
@[simp] theorem ibin_and : ibin P .and t (.int k a) (.int k b) = some (.int k (bits .and k a b)) := by simp [ibin, iint]
@[simp] theorem ibin_or : ibin P .or t (.int k a) (.int k b) = some (.int k (bits .or k a b)) := by simp [ibin, iint]
@[simp] theorem ibin_xor : ibin P .xor t (.int k a) (.int k b) = some (.int k (bits .xor k a b)) := by simp [ibin, iint]
@[simp] theorem ibin_andNot : ibin P .andNot t (.int k a) (.int k b) = some (.int k (bits .andNot k a b)) := by simp [ibin, iint]
@[simp] theorem ibin_eql : ibin P .eql t (.int k a) (.int k b) = some (.bool (decide (a = b))) := by simp [ibin, iint]; rfl
@[simp] theorem ibin_neq : ibin P .neq t (.int k a) (.int k b) = some (.bool (!decide (a = b))) := by simp [ibin, iint, bne]; rfl
@[simp] theorem ibin_lss : ibin P .lss t (.int k a) (.int k b) = some (.bool (decide (a < b))) := by simp [ibin, iint]
@[simp] theorem ibin_leq : ibin P .leq t (.int k a) (.int k b) = some (.bool (decide (a ≤ b))) := by simp [ibin, iint]
@[simp] theorem ibin_gtr : ibin P .gtr t (.int k a) (.int k b) = some (.bool (decide (b < a))) := by simp [ibin, iint]
@[simp] theorem ibin_geq : ibin P .geq t (.int k a) (.int k b) = some (.bool (decide (b ≤ a))) := by simp [ibin, iint]
@[simp] theorem ibin_shl {k' : IntKind} : ibin P .shl t (.int k a) (.int k' b) = if b < 0 then none else some (.int k (k.wrap (a * 2 ^ (min b.toNat k.bits)))) := by simp [ibin, ishift]
@[simp] theorem ibin_shr {k' : IntKind} : ibin P .shr t (.int k a) (.int k' b) = if b < 0 then none else some (.int k (a.fdiv (2 ^ (min b.toNat k.bits)))) := by simp [ibin, ishift]
@[simp] theorem ibin_eql_ptr (x : Option Addr) (y : Value) : ibin P .eql t (.pointer x) y = (ieq P 100 t (.pointer x) y).map .bool := rfl
@[simp] theorem ibin_eql_slice (x : Option Addr) (n c : Nat) (y : Value) : ibin P .eql t (.slice x n c) y = (ieq P 100 t (.slice x n c) y).map .bool := rfl
@[simp] theorem ibin_eql_bool (x : Bool) (y : Value) : ibin P .eql t (.bool x) y = (ieq P 100 t (.bool x) y).map .bool := rfl
@[simp] theorem ibin_neq_ptr (x : Option Addr) (y : Value) : ibin P .neq t (.pointer x) y = (ieq P 100 t (.pointer x) y).map fun b => .bool (!b) := rfl
@[simp] theorem ibin_neq_slice (x : Option Addr) (n c : Nat) (y : Value) : ibin P .neq t (.slice x n c) y = (ieq P 100 t (.slice x n c) y).map fun b => .bool (!b) := rfl
@[simp] theorem ibin_neq_bool (x : Bool) (y : Value) : ibin P .neq t (.bool x) y = (ieq P 100 t (.bool x) y).map fun b => .bool (!b) := rfl
@[simp] theorem ibin_eql_func (f : Fn) (x y : Array Value) (z : Value) : ibin P .eql t (.func f x y) z = (ieq P 100 t (.func f x y) z).map .bool := rfl
@[simp] theorem ibin_eql_nilFunc (z : Value) : ibin P .eql t .nilFunc z = (ieq P 100 t .nilFunc z).map .bool := rfl
@[simp] theorem ibin_neq_func (f : Fn) (x y : Array Value) (z : Value) : ibin P .neq t (.func f x y) z = (ieq P 100 t (.func f x y) z).map fun b => .bool (!b) := rfl
@[simp] theorem ibin_neq_nilFunc (z : Value) : ibin P .neq t .nilFunc z = (ieq P 100 t .nilFunc z).map fun b => .bool (!b) := rfl
@[simp] theorem iun_not (b : Bool) : iun .not (.bool b) = some (.bool !b) := rfl
@[simp] theorem iun_neg : iun .neg (.int k a) = some (.int k (k.wrap (0 - a))) := rfl
@[simp] theorem stN_agg (n : Nat) (a : Addr) (cs : Array Value) : stN n h a (.agg cs) = if cs.size = n then wrN h a cs.toList else none := rfl
theorem stN_leaf (a : Addr) (v : Value) (hv : leaf v = true) : stN 1 h a v = wr1 h a v := by cases v <;> first | rfl | simp [leaf] at hv
@[simp] theorem stN_int (a : Addr) (k : IntKind) (x : Int) : stN 1 h a (.int k x) = wr1 h a (.int k x) := rfl
@[simp] theorem stN_bool (a : Addr) (x : Bool) : stN 1 h a (.bool x) = wr1 h a (.bool x) := rfl
@[simp] theorem stN_string (a : Addr) (x : ByteArray) : stN 1 h a (.string x) = wr1 h a (.string x) := rfl
@[simp] theorem stN_ptr (a : Addr) (x : Option Addr) : stN 1 h a (.pointer x) = wr1 h a (.pointer x) := rfl
@[simp] theorem stN_slice (a : Addr) (x : Option Addr) (n c : Nat) : stN 1 h a (.slice x n c) = wr1 h a (.slice x n c) := rfl
@[simp] theorem stN_map (a : Addr) (x : Option Nat) : stN 1 h a (.map x) = wr1 h a (.map x) := rfl
@[simp] theorem stN_func (a : Addr) (f : Fn) (x y : Array Value) : stN 1 h a (.func f x y) = wr1 h a (.func f x y) := rfl
@[simp] theorem stN_nilFunc (a : Addr) : stN 1 h a .nilFunc = wr1 h a .nilFunc := rfl
@[simp] theorem stN_iface (a : Addr) (t : TypeId) (v : Value) : stN 1 h a (.iface t v) = wr1 h a (.iface t v) := rfl
@[simp] theorem stN_nilIface (a : Addr) : stN 1 h a .nilIface = wr1 h a .nilIface := rfl
@[simp] theorem rd_mk (w0 : World) (b o g : Nat) : rd w0 h ⟨b, o, some g⟩ = match h[b]? with
    | some (.row cs _ g') => if g = g' then cs[o]? else none
    | _ => none := rfl
@[simp] theorem rdN_mk (w0 : World) (b o g n : Nat) : rdN w0 h ⟨b, o, some g⟩ n = match h[b]? with
    | some (.row cs _ g') => if g = g' then (if o + n ≤ cs.length then some ((cs.drop o).take n) else none) else none
    | _ => none := rfl
@[simp] theorem wr1_mk (b o g : Nat) (v : Value) : wr1 h ⟨b, o, some g⟩ v = match h[b]? with
    | some (.row cs e g') => if g = g' then (if o < cs.length then (if leaf v then some (h.set b (.row (cs.set o v) e g')) else none) else none) else none
    | _ => none := rfl
@[simp] theorem wrN_mk (b o g : Nat) (vs : List Value) : wrN h ⟨b, o, some g⟩ vs = match h[b]? with
    | some (.row cs e g') => if g = g' then (if o + vs.length ≤ cs.length then (if vs.all leaf then some (h.set b (.row (splice cs o vs) e g')) else none) else none) else none
    | _ => none := rfl
end
attribute [simp] buildV ifill bsV irow splice iminmax iminmaxFrom

/-! ### Heaps -/

@[simp] theorem getElem?_append_add {α : Type} (h L : List α) (k : Nat) : (h ++ L)[h.length + k]? = L[k]? := by
  rw [List.getElem?_append_right (by omega)]; congr 1; omega
@[simp] theorem getElem?_append_len {α : Type} (h L : List α) : (h ++ L)[h.length]? = L[0]? := by
  rw [List.getElem?_append_right (by omega)]; congr 1; omega
@[simp] theorem set_append_add {α : Type} (h L : List α) (k : Nat) (r : α) : (h ++ L).set (h.length + k) r = h ++ L.set k r := by
  rw [List.set_append_right _ _ (by omega)]; congr 2; omega
@[simp] theorem set_append_len {α : Type} (h L : List α) (r : α) : (h ++ L).set h.length r = h ++ L.set 0 r := by
  rw [List.set_append_right _ _ (by omega)]; congr 2; omega

/-- Behind, nothing of what was there has changed, but what is named. -/
structure Fr (S : List Nat) (h h' : Heap) : Prop where
  len : h.length ≤ h'.length
  same : ∀ (i : Nat) (o : IObj), i ∉ S → h[i]? = some o → h'[i]? = some o

theorem Fr.refl (S : List Nat) (h : Heap) : Fr S h h := ⟨Nat.le_refl _, fun _ _ _ ho => ho⟩
theorem lt_of_get {h : Heap} {i : Nat} {o : IObj} (ho : h[i]? = some o) : i < h.length := (List.getElem?_eq_some_iff.1 ho).1
theorem Fr.append (S : List Nat) (h L : Heap) : Fr S h (h ++ L) :=
  ⟨by simp, fun i o _ ho => by rw [List.getElem?_append_left (lt_of_get ho)]; exact ho⟩
theorem Fr.trans {S : List Nat} {h h1 h2 : Heap} (f1 : Fr S h h1) (f2 : Fr S h1 h2) : Fr S h h2 :=
  ⟨Nat.le_trans f1.len f2.len, fun i o hi ho => f2.same i o hi (f1.same i o hi ho)⟩
/-- What came later may change. -/
theorem Fr.trans' {S S' : List Nat} {h h1 h2 : Heap} (f1 : Fr S h h1) (f2 : Fr S' h1 h2) (hs : ∀ i ∈ S', i ∈ S ∨ h.length ≤ i) : Fr S h h2 :=
  ⟨Nat.le_trans f1.len f2.len, fun i o hi ho => f2.same i o (fun hi' => (hs i hi').elim hi (fun h' => by have := lt_of_get ho; omega)) (f1.same i o hi ho)⟩
theorem Fr.mono {S S' : List Nat} {h h1 : Heap} (f1 : Fr S h h1) (hs : ∀ i ∈ S, i ∈ S') : Fr S' h h1 :=
  ⟨f1.len, fun i o hi ho => f1.same i o (fun h' => hi (hs i h')) ho⟩
theorem Fr.set {S : List Nat} (h : Heap) (i : Nat) (o : IObj) (hi : i ∈ S) : Fr S h (h.set i o) :=
  ⟨by simp, fun j o' hj ho => by rw [List.getElem?_set_ne (fun e => hj (by rw [← e]; exact hi))]; exact ho⟩
theorem Fr.setNew {S : List Nat} {h h1 : Heap} (f : Fr S h h1) (i : Nat) (o : IObj) (hi : h.length ≤ i) : Fr S h (h1.set i o) :=
  ⟨by simpa using f.len, fun j o' hj ho => by rw [List.getElem?_set_ne (fun e => by have := lt_of_get ho; omega)]; exact f.same j o' hj ho⟩

end Go.Ideal
