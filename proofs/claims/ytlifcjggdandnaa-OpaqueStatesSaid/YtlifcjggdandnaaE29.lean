/- What code comes to, with as much fuel as it wants; weakest preconditions over the ideal machine. -/
import Derived.Test.YtlifcjggdandnaaE21
namespace Go.Ideal
universe u
section
variable {P : Program} {w0 : World} {hk : Hooks}

/-- A call comes to an answer and a heap. -/
def EvF (P : Program) (w0 : World) (hk : Hooks) (f : FuncId) (args : List Value) (h : Heap) (r : IRet) (h' : Heap) : Prop :=
  ∃ N, ∀ n d, N ≤ n → N ≤ d → call P w0 hk n d f args h = some (r, h')

def EvC (P : Program) (w0 : World) (hk : Hooks) (c : Code) (a : Array Value) (h : Heap) (e : IExit) (a' : Array Value) (h' : Heap) : Prop :=
  ∃ N, ∀ n d, N ≤ n → N ≤ d → exec P w0 (call P w0 hk n d) n c a h = some (e, a', h')

/-- A mark on an argument: 'simp' lets a marked argument be. -/
inductive Tag {α : Sort u} (a : α) : Type
  | mk

/-- A call answers what it should. -/
def Ans (P : Program) (w0 : World) (hk : Hooks) (f : FuncId) (args : List Value) (h : Heap) (Ψ : IRet → Heap → Prop) (_t : Tag Ψ := .mk) : Prop :=
  ∃ r h', EvF P w0 hk f args h r h' ∧ Ψ r h'

theorem Ans.mono {f : FuncId} {args : List Value} {h : Heap} {Ψ Ψ' : IRet → Heap → Prop} (ha : Ans P w0 hk f args h Ψ) (hm : ∀ r h', Ψ r h' → Ψ' r h') : Ans P w0 hk f args h Ψ' := by
  obtain ⟨r, h', h1, h2⟩ := ha
  exact ⟨r, h', h1, hm r h' h2⟩

/-! ### Temporaries, as a function -/

abbrev Loc := Nat → Value
def upd (ρ : Loc) (t : Nat) (v : Value) : Loc := fun i => if i = t then v else ρ i
@[simp] theorem upd_app (ρ : Loc) (t : Nat) (v : Value) (i : Nat) : upd ρ t v i = if i = t then v else ρ i := rfl

def evL (ρ : Loc) : Operand → Value
  | .tmp t => ρ t
  | .const v => v
  | .global g => .pointer (some ⟨g, 0, none⟩)
  | .func f => .func (.func f) #[] #[]

def putL (ρ : Loc) (d : Option Tmp) (v : Value) : Loc :=
  match d with
  | some t => upd ρ t v
  | none => ρ

def LocOf (n : Nat) (a : Array Value) (ρ : Loc) : Prop := a.size = n ∧ ∀ t, (a[t]?).getD undef = ρ t

theorem LocOf.getD {n : Nat} {a : Array Value} {ρ : Loc} (hl : LocOf n a ρ) (t : Nat) : a.getD t undef = ρ t := by
  rw [← hl.2 t]; simp

theorem LocOf.ev {n : Nat} {a : Array Value} {ρ : Loc} (hl : LocOf n a ρ) (x : Operand) : ev a x = evL ρ x := by
  cases x <;> simp [Go.Ideal.ev, evL]
  exact hl.2 _

def dstOk (n : Nat) : Option Tmp → Bool
  | some t => decide (t < n)
  | none => true

theorem LocOf.put {n : Nat} {a : Array Value} {ρ : Loc} (hl : LocOf n a ρ) {d : Option Tmp} (hd : dstOk n d = true) (v : Value) : LocOf n (iput a d v) (putL ρ d v) := by
  cases d with
  | none => exact hl
  | some t =>
    simp [dstOk] at hd
    refine ⟨by simp [iput, hl.1], fun i => ?_⟩
    have hs := hl.1
    by_cases hi : i = t
    · subst hi
      simp [iput, putL, hs, hd]
    · have := hl.2 i
      simp only [iput, putL, upd_app, hi, if_false, ← this]
      rw [Array.getElem?_setIfInBounds_ne (fun h => hi h.symm)]

def wantL (ops : Array Oper) (ρ : Loc) (o : Oper) : Bool :=
  match o.guard with
  | none => true
  | some (j, want) => match (ops[j]?).bind (·.dst) with
    | some t => match ρ t with
      | .bool b => b == want
      | _ => false
    | none => false

theorem LocOf.want {n : Nat} {a : Array Value} {ρ : Loc} (hl : LocOf n a ρ) (ops : Array Oper) (o : Oper) : Region.wanted o (yielded ops a) = wantL ops ρ o := by
  unfold Region.wanted wantL
  cases o.guard with
  | none => rfl
  | some g =>
    obtain ⟨j, want⟩ := g
    simp only [yielded]
    cases hj : (ops[j]?).bind (·.dst) with
    | none => simp
    | some t =>
      simp only [Option.bind_some]
      have h2 := hl.2 t
      cases ht : a[t]? with
      | some v =>
        simp only [ht, Option.getD_some] at h2
        subst h2
        cases ρ t <;> simp
      | none =>
        simp only [ht, Option.getD_none] at h2
        rw [← h2]
        rfl

/-! ### Answers of operations -/

def Sat {α : Type} (x : Option α) (G : α → Prop) (_t : Tag G := .mk) : Prop := ∃ r, x = some r ∧ G r
theorem Sat.some_iff {α : Type} (r : α) (G : α → Prop) : Sat (some r) G = G r := by simp [Sat]
theorem Sat.map_iff {α β : Type} (x : Option α) (f : α → β) (G : β → Prop) : Sat (x.map f) G = Sat x (fun v => G (f v)) := by
  cases x <;> simp [Sat]
theorem Sat.bind_iff {α β : Type} (x : Option α) (f : α → Option β) (G : β → Prop) : Sat (x.bind f) G = Sat x (fun v => Sat (f v) G) := by
  cases x <;> simp [Sat]
theorem Sat.ite_iff {α : Type} (c : Prop) [Decidable c] (x : Option α) (G : α → Prop) : Sat (if c then x else none) G = (c ∧ Sat x G) := by
  by_cases c <;> simp_all [Sat]
theorem Sat.ite_iff' {α : Type} (c : Prop) [Decidable c] (x : Option α) (G : α → Prop) : Sat (if c then none else x) G = (¬ c ∧ Sat x G) := by
  by_cases c <;> simp_all [Sat]

theorem iop_loc {h : Heap} {n : Nat} {a : Array Value} {ρ : Loc} (hl : LocOf n a ρ) (o : Oper) : iop P w0 h (ev a) o = iop P w0 h (evL ρ) o := by
  have : ev a = evL ρ := funext hl.ev
  rw [this]

/-! ### Weakest preconditions -/

def wpIf (b : Bool) (A B : Prop) (_t : Tag A := .mk) (_u : Tag B := .mk) : Prop := (b = true → A) ∧ (b = false → B)
theorem wpIf_true (A B : Prop) : wpIf true A B = A := by simp [wpIf]
theorem wpIf_false (A B : Prop) : wpIf false A B = B := by simp [wpIf]
theorem wpIf_imp {b : Bool} {A B A' B' : Prop} (h : wpIf b A B) (h1 : A → A') (h2 : B → B') : wpIf b A' B' := ⟨fun e => h1 (h.1 e), fun e => h2 (h.2 e)⟩

/-- A value is a truth value, with which it goes on. -/
def Tst (v : Value) (F : Bool → Prop) (_t : Tag F := .mk) : Prop := ∃ t, v = .bool t ∧ F t
theorem Tst_bool (b : Bool) (F : Bool → Prop) : Tst (.bool b) F = F b := by simp [Tst]

def ansQ (K : Value → Heap → Prop) (Pn : Value → Heap → Prop) : IRet → Heap → Prop
  | .ret v, h' => K v h'
  | .pan v, h' => Pn v h'

/-- What an operation's answer leads to. -/
def wpA (P : Program) (w0 : World) (hk : Hooks) (h : Heap) (K : Value → Heap → Prop) (Pn : Value → Heap → Prop) : IRes → Prop
  | .val v h' => K v h'
  | .skip h' => K undef h'
  | .call f args => Ans P w0 hk f args h (ansQ K Pn)
  | .panic v => Pn v h

def wpOp (P : Program) (w0 : World) (hk : Hooks) (ops : Array Oper) (o : Oper) (ρ : Loc) (h : Heap) (K : Loc → Heap → Prop) (Pn : Value → Heap → Prop) : Prop :=
  wpIf (wantL ops ρ o) (Sat (iop P w0 h (evL ρ) o) (wpA P w0 hk h (fun v h' => K (putL ρ o.dst v) h') Pn))
    (K (putL ρ o.dst undef) h)

/-- What is told of an operation without running it. -/
def opOk (n : Nat) (o : Oper) : Bool := o.op.operands.toList.all constOk && dstOk n o.dst

def wpR (P : Program) (w0 : World) (hk : Hooks) (ops : Array Oper) : List Oper → Loc → Heap → (IExit → Loc → Heap → Prop) → Prop
  | [], ρ, h, Q => Q .normal ρ h
  | o :: l, ρ, h, Q => wpOp P w0 hk ops o ρ h (fun ρ' h' => wpR P w0 hk ops l ρ' h' Q) (fun v h' => Q (.panic v) ρ h')

/-- Rounds of a loop, so many at most. -/
def wpRounds (body : Loc → Heap → (IExit → Loc → Heap → Prop) → Prop) : Nat → Loc → Heap → (IExit → Loc → Heap → Prop) → Prop
  | 0, _, _, _ => False
  | k + 1, ρ, h, Q => body ρ h fun e ρ' h' => match e with
    | .normal => wpRounds body k ρ' h' Q
    | e => Q e ρ' h'

/-- What follows behind the first part. -/
def thenQ (K : Loc → Heap → Prop) (Q : IExit → Loc → Heap → Prop) : IExit → Loc → Heap → Prop
  | .normal, ρ, h => K ρ h
  | e, ρ, h => Q e ρ h

def blockQ (id : Nat) (Q : IExit → Loc → Heap → Prop) : IExit → Loc → Heap → Prop
  | .exit id', ρ, h => Q (if id' = id then .normal else .exit id') ρ h
  | e, ρ, h => Q e ρ h

def drawsOk (ops : Array Oper) : Bool := drawOk ops.toList && backOk ops.toList && (openPairs ops.toList).isEmpty

/-- A draw that has open pairs, or panics: to be shown by hand. -/
def wpDraw (P : Program) (w0 : World) (hk : Hooks) (n : Nat) (ops : Array Oper) (ρ : Loc) (h : Heap) (Q : IExit → Loc → Heap → Prop) : Prop :=
  ∀ a, LocOf n a ρ → ∃ e a' h' ρ', (∃ N, ∀ m d, N ≤ m → N ≤ d → idraw P w0 (call P w0 hk m d) ops a h = some (e, a', h')) ∧ LocOf n a' ρ' ∧ Q e ρ' h'

def noPanQ (Q : IExit → Loc → Heap → Prop) : IExit → Loc → Heap → Prop
  | .normal, ρ, h => Q .normal ρ h
  | _, _, _ => False

/-- 'ex': the regions that are shown by hand. -/
def wp (P : Program) (w0 : World) (hk : Hooks) (n : Nat) (ex : List Nat) : Code → Loc → Heap → (IExit → Loc → Heap → Prop) → Prop
  | .skip, ρ, h, Q => Q .normal ρ h
  | .region _ ops false, ρ, h, Q => wpR P w0 hk ops ops.toList ρ h Q
  | .region id ops true, ρ, h, Q => wpIf (ex.contains id) (wpDraw P w0 hk n ops ρ h Q) (wpR P w0 hk ops ops.toList ρ h (noPanQ Q))
  | .seq x y, ρ, h, Q => wp P w0 hk n ex x ρ h (thenQ (fun ρ' h' => wp P w0 hk n ex y ρ' h' Q) Q)
  | .cond c x y, ρ, h, Q => Tst (evL ρ c) fun t => wpIf t (wp P w0 hk n ex x ρ h Q) (wp P w0 hk n ex y ρ h Q)
  | .block id body, ρ, h, Q => wp P w0 hk n ex body ρ h (blockQ id Q)
  | .loop body, ρ, h, Q => ∃ k, wpRounds (wp P w0 hk n ex body) k ρ h Q
  | .exit id, ρ, h, Q => Q (.exit id) ρ h
  | .ret, ρ, h, Q => Q .ret ρ h
  | .label _, ρ, h, Q => Q .normal ρ h
  | .scope c, ρ, h, Q => wp P w0 hk n ex c ρ h Q
  | _, _, _, _ => False

/-- All draws but those of 'ex' come to one and the same in any order. -/
def codeOk (n : Nat) (ex : List Nat) : Code → Bool
  | .region id ops true => ops.toList.all (opOk n) && (ex.contains id || drawsOk ops)
  | .region _ ops false => ops.toList.all (opOk n)
  | .seq x y => codeOk n ex x && codeOk n ex y
  | .cond c x y => constOk c && (codeOk n ex x && codeOk n ex y)
  | .block _ c => codeOk n ex c
  | .loop c => codeOk n ex c
  | .scope c => codeOk n ex c
  | _ => true

/-! ### They tell what is run -/

def EvO (P : Program) (w0 : World) (hk : Hooks) (ops : Array Oper) (o : Oper) (a : Array Value) (h : Heap) (s : IStep) : Prop :=
  ∃ N, ∀ m d, N ≤ m → N ≤ d → istep P w0 (call P w0 hk m d) ops o a h = some s

theorem wpOp_run {n : Nat} {ops : Array Oper} {o : Oper} {ρ : Loc} {h : Heap} {K : Loc → Heap → Prop} {Pn : Value → Heap → Prop} (hok : opOk n o = true) (hw : wpOp P w0 hk ops o ρ h K Pn) {a : Array Value} (hl : LocOf n a ρ) :
    (∃ a' h' ρ', EvO P w0 hk ops o a h (.go a' h') ∧ LocOf n a' ρ' ∧ K ρ' h') ∨ (∃ v h', EvO P w0 hk ops o a h (.pan v h') ∧ Pn v h') := by
  unfold wpOp at hw
  simp only [opOk, Bool.and_eq_true] at hok
  obtain ⟨hc, hd⟩ := hok
  unfold EvO istep
  simp only [hc, hl.want, not_true, if_false]
  by_cases hwant : wantL ops ρ o = true
  · rw [hwant, wpIf_true] at hw
    simp only [hwant, if_true]
    obtain ⟨r, hr, hw⟩ := hw
    simp only [iop_loc hl, hr]
    cases r with
    | val v h' => exact .inl ⟨_, _, _, ⟨0, fun _ _ _ _ => rfl⟩, hl.put hd v, hw⟩
    | skip h' => exact .inl ⟨_, _, _, ⟨0, fun _ _ _ _ => rfl⟩, hl.put hd undef, hw⟩
    | panic v => exact .inr ⟨_, _, ⟨0, fun _ _ _ _ => rfl⟩, hw⟩
    | call f args =>
      obtain ⟨r, h', ⟨N, hN⟩, hq⟩ := hw
      cases r with
      | ret v => exact .inl ⟨_, _, _, ⟨N, fun m d h1 h2 => by simp only [hN m d h1 h2]⟩, hl.put hd v, hq⟩
      | pan v => exact .inr ⟨_, _, ⟨N, fun m d h1 h2 => by simp only [hN m d h1 h2]⟩, hq⟩
  · rw [eq_false_of_ne_true hwant, wpIf_false] at hw
    simp only [hwant]
    exact .inl ⟨_, _, _, ⟨0, fun _ _ _ _ => rfl⟩, hl.put hd undef, hw⟩

theorem wpR_run {n : Nat} {ops : Array Oper} : ∀ (l : List Oper), l.all (opOk n) = true → ∀ {ρ : Loc} {h : Heap} {Q : IExit → Loc → Heap → Prop}, wpR P w0 hk ops l ρ h Q → ∀ {a : Array Value}, LocOf n a ρ →
    ∃ e a' h' ρ', (∃ N, ∀ m d, N ≤ m → N ≤ d → irun P w0 (call P w0 hk m d) ops l a h = some (e, a', h')) ∧ LocOf n a' ρ' ∧ Q e ρ' h'
  | [], _, ρ, h, Q, hw, a, hl => ⟨.normal, a, h, ρ, ⟨0, fun _ _ _ _ => rfl⟩, hl, hw⟩
  | o :: l, hok, ρ, h, Q, hw, a, hl => by
    simp only [List.all_cons, Bool.and_eq_true] at hok
    rcases wpOp_run hok.1 hw hl with ⟨a1, h1, ρ1, ⟨N, hN⟩, hl1, hw1⟩ | ⟨v, h1, ⟨N, hN⟩, hq⟩
    · obtain ⟨e, a', h', ρ', ⟨M, hM⟩, hl', hq⟩ := wpR_run l hok.2 hw1 hl1
      exact ⟨e, a', h', ρ', ⟨max N M, fun m d g1 g2 => by simp only [irun, hN m d (by omega) (by omega), hM m d (by omega) (by omega)]⟩, hl', hq⟩
    · exact ⟨.panic v, a, h1, ρ, ⟨N, fun m d g1 g2 => by simp only [irun, hN m d g1 g2]⟩, hl, hq⟩

theorem wpDraw_run {n : Nat} {ops : Array Oper} (hok : ops.toList.all (opOk n) = true) (hs : drawsOk ops = true) {ρ : Loc} {h : Heap} {Q : IExit → Loc → Heap → Prop} (hw : wpR P w0 hk ops ops.toList ρ h (noPanQ Q)) : wpDraw P w0 hk n ops ρ h Q := by
  intro a hl
  obtain ⟨e, a', h', ρ', ⟨N, hN⟩, hl', hq⟩ := wpR_run ops.toList hok hw hl
  simp only [drawsOk, Bool.and_eq_true, List.isEmpty_iff] at hs
  cases e with
  | normal =>
    refine ⟨.normal, a', h', ρ', ⟨N, fun m d g1 g2 => ?_⟩, hl', hq⟩
    rw [idraw_eq (by simp [hs.1.1, hs.1.2]) hs.2, hN m d g1 g2]
  | _ => exact hq.elim

/-! ### Draws with open pairs -/

abbrev RecL := Loc × Heap × Heap

def revalL (P : Program) (w0 : World) (o : Oper) (ρ : Loc) (h h2 : Heap) : Prop :=
  ∃ v h3 h4, iop P w0 h (evL ρ) o = some (.val v h3) ∧ iop P w0 h2 (evL ρ) o = some (.val v h4)

def chkL (P : Program) (w0 : World) (ops : Array Oper) (tr : List RecL) (i j : Nat) : Prop :=
  Sat (ops[i]?) fun x => Sat (ops[j]?) fun y => Sat (tr[i]?) fun ri => Sat (tr[j]?) fun rj =>
    wpIf (decide (okind x = .read)) (wpIf (wantL ops ri.1 x) (revalL P w0 x ri.1 ri.2.1 rj.2.2) True)
      (wpIf (wantL ops rj.1 y) (revalL P w0 y rj.1 rj.2.1 ri.2.1) True)

def wpT (P : Program) (w0 : World) (hk : Hooks) (ops : Array Oper) : List Oper → List RecL → Loc → Heap → (List RecL → Loc → Heap → Prop) → Prop
  | [], tr, ρ, h, K => K tr ρ h
  | o :: l, tr, ρ, h, K => wpOp P w0 hk ops o ρ h (fun ρ' h' => wpT P w0 hk ops l (tr ++ [(ρ, h, h')]) ρ' h' K) (fun _ _ => False)

def RecOf (n : Nat) (r : Rec) (s : RecL) : Prop := LocOf n r.a s.1 ∧ r.h = s.2.1 ∧ r.h' = s.2.2

theorem wpT_run {n : Nat} {ops : Array Oper} : ∀ (l : List Oper), l.all (opOk n) = true → ∀ (i : Nat) {tr : List RecL} {ρ : Loc} {h : Heap} {K : List RecL → Loc → Heap → Prop}, wpT P w0 hk ops l tr ρ h K → ∀ {a : Array Value}, LocOf n a ρ →
    ∃ a' h' ρ' rs ss, (∃ N, ∀ m d, N ≤ m → N ≤ d → itrace P w0 (call P w0 hk m d) ops i l a h = some (.normal, a', h', rs)) ∧ LocOf n a' ρ' ∧ K (tr ++ ss) ρ' h' ∧ rs.length = ss.length ∧
      ∀ (k : Nat) (r : Rec) (s : RecL), rs[k]? = some r → ss[k]? = some s → RecOf n r s
  | [], _, i, tr, ρ, h, K, hw, a, hl => ⟨a, h, ρ, [], [], ⟨0, fun _ _ _ _ => rfl⟩, hl, by simpa [wpT] using hw, rfl, fun k r s hr => by simp at hr⟩
  | o :: l, hok, i, tr, ρ, h, K, hw, a, hl => by
    simp only [List.all_cons, Bool.and_eq_true] at hok
    rcases wpOp_run hok.1 hw hl with ⟨a1, h1, ρ1, ⟨N, hN⟩, hl1, hw1⟩ | ⟨v, h1, ⟨N, hN⟩, hq⟩
    · obtain ⟨a', h', ρ', rs, ss, ⟨M, hM⟩, hl', hq, hlen, hrs⟩ := wpT_run l hok.2 (i + 1) hw1 hl1
      refine ⟨a', h', ρ', ⟨i, a, h, h1⟩ :: rs, (ρ, h, h1) :: ss, ⟨max N M, fun m d g1 g2 => by simp only [itrace, hN m d (by omega) (by omega), hM m d (by omega) (by omega)]⟩, hl', by simpa using hq, by simpa using hlen, fun k r s hr hs => ?_⟩
      cases k with
      | zero => simp at hr hs; subst hr hs; exact ⟨hl, rfl, rfl⟩
      | succ k => exact hrs k r s (by simpa using hr) (by simpa using hs)
    · exact hq.elim

theorem revalL_run {n : Nat} {o : Oper} {a : Array Value} {ρ : Loc} (hl : LocOf n a ρ) {h h2 : Heap} (hr : revalL P w0 o ρ h h2) : reval P w0 o a h h2 = true := by
  obtain ⟨v, h3, h4, e1, e2⟩ := hr
  simp only [reval, iop_loc hl, e1, e2, beqV_self]

theorem chkL_run {n : Nat} {ops : Array Oper} {rs : List Rec} {ss : List RecL} (hlen : rs.length = ss.length) (hrs : ∀ (k : Nat) (r : Rec) (s : RecL), rs[k]? = some r → ss[k]? = some s → RecOf n r s) {i j : Nat} (hc : chkL P w0 ops ss i j) : chk P w0 ops rs i j = true := by
  obtain ⟨x, hx, y, hy, si, hi, sj, hj, hc⟩ := hc
  have get : ∀ (k : Nat) (s : RecL), ss[k]? = some s → ∃ r, rs[k]? = some r ∧ RecOf n r s := by
    intro k s hs
    have hlt : k < rs.length := by rw [hlen]; exact (List.getElem?_eq_some_iff.1 hs).1
    exact ⟨rs[k], List.getElem?_eq_getElem hlt, hrs k _ _ (List.getElem?_eq_getElem hlt) hs⟩
  obtain ⟨ri, ei, li, h1, h2⟩ := get i si hi
  obtain ⟨rj, ej, lj, h3, h4⟩ := get j sj hj
  unfold chk
  simp only [hx, hy, ei, ej, li.want, lj.want, h1, h2, h3, h4]
  by_cases hk : okind x = .read
  · rw [decide_eq_true hk, wpIf_true] at hc
    simp only [hk, if_true]
    cases hw : wantL ops si.1 x with
    | true => rw [hw, wpIf_true] at hc; simp [revalL_run li hc]
    | false => rfl
  · rw [decide_eq_false hk, wpIf_false] at hc
    simp only [hk, if_false]
    cases hw : wantL ops sj.1 y with
    | true => rw [hw, wpIf_true] at hc; simp [revalL_run lj hc]
    | false => rfl

theorem wpDraw_open {n : Nat} {ops : Array Oper} {ps : List (Nat × Nat)} (hok : ops.toList.all (opOk n) = true) (hs : (drawOk ops.toList && backOk ops.toList) = true) (hp : openPairs ops.toList = ps) {ρ : Loc} {h : Heap} {Q : IExit → Loc → Heap → Prop}
    (hw : wpT P w0 hk ops ops.toList [] ρ h (fun tr ρ' h' => (∀ p ∈ ps, chkL P w0 ops tr p.1 p.2) ∧ Q .normal ρ' h')) : wpDraw P w0 hk n ops ρ h Q := by
  intro a hl
  obtain ⟨a', h', ρ', rs, ss, ⟨N, hN⟩, hl', ⟨hc, hq⟩, hlen, hrs⟩ := wpT_run ops.toList hok 0 hw hl
  refine ⟨.normal, a', h', ρ', ⟨N, fun m d g1 g2 => ?_⟩, hl', hq⟩
  have : (openPairs ops.toList).all (fun p => decide (rs.length ≤ p.2) || chk P w0 ops rs p.1 p.2) = true := by
    rw [List.all_eq_true, hp]
    intro p hp
    rw [chkL_run hlen hrs (by simpa using hc p hp), Bool.or_true]
  simp [idraw, hs, hN m d g1 g2, this]

theorem EvC.of {c : Code} {a : Array Value} {h : Heap} {e : IExit} {a' : Array Value} {h' : Heap} (N : Nat) (hN : ∀ n d, N ≤ n → N ≤ d → exec P w0 (call P w0 hk n d) n c a h = some (e, a', h')) : EvC P w0 hk c a h e a' h' := ⟨N, hN⟩

def WpRun (P : Program) (w0 : World) (hk : Hooks) (n : Nat) (ex : List Nat) (c : Code) : Prop :=
  ∀ {ρ : Loc} {h : Heap} {Q : IExit → Loc → Heap → Prop}, wp P w0 hk n ex c ρ h Q → ∀ {a : Array Value}, LocOf n a ρ → ∃ e a' h' ρ', EvC P w0 hk c a h e a' h' ∧ LocOf n a' ρ' ∧ Q e ρ' h'

theorem wpRounds_run {n : Nat} {ex : List Nat} {c : Code} (hc : WpRun P w0 hk n ex c) : ∀ (k : Nat) {ρ : Loc} {h : Heap} {Q : IExit → Loc → Heap → Prop}, wpRounds (wp P w0 hk n ex c) k ρ h Q → ∀ {a : Array Value}, LocOf n a ρ →
    ∃ e a' h' ρ', (∃ N, ∀ j m d, N ≤ j → N ≤ m → N ≤ d → iter (exec P w0 (call P w0 hk m d) m c) j a h = some (e, a', h')) ∧ LocOf n a' ρ' ∧ Q e ρ' h'
  | 0, _, _, _, hw, _, _ => hw.elim
  | k + 1, ρ, h, Q, hw, a, hl => by
    obtain ⟨e, a1, h1, ρ1, ⟨N, hN⟩, hl1, hq⟩ := hc hw hl
    by_cases he : e = .normal
    · subst he
      obtain ⟨e, a', h', ρ', ⟨M, hM⟩, hl', hq'⟩ := wpRounds_run hc k hq hl1
      refine ⟨e, a', h', ρ', ⟨max N M + 1, fun j m d g1 g2 g3 => ?_⟩, hl', hq'⟩
      obtain ⟨j, rfl⟩ : ∃ i, j = i + 1 := ⟨j - 1, by omega⟩
      simp only [iter, hN m d (by omega) (by omega), hM j m d (by omega) (by omega) (by omega)]
    · refine ⟨e, a1, h1, ρ1, ⟨N + 1, fun j m d g1 g2 g3 => ?_⟩, hl1, ?_⟩
      · obtain ⟨j, rfl⟩ : ∃ i, j = i + 1 := ⟨j - 1, by omega⟩
        simp only [iter, hN m d (by omega) (by omega)]
        try (cases e <;> first | rfl | exact absurd rfl he)
      · cases e <;> first | exact hq | exact absurd rfl he

theorem wp_run {n : Nat} {ex : List Nat} : ∀ (c : Code), codeOk n ex c = true → WpRun P w0 hk n ex c := by
  intro c
  induction c with
  | skip => intro _ ρ h Q hw a hl; exact ⟨_, _, _, _, .of 0 fun _ _ _ _ => rfl, hl, hw⟩
  | exit id => intro _ ρ h Q hw a hl; exact ⟨_, _, _, _, .of 0 fun _ _ _ _ => rfl, hl, hw⟩
  | ret => intro _ ρ h Q hw a hl; exact ⟨_, _, _, _, .of 0 fun _ _ _ _ => rfl, hl, hw⟩
  | label l => intro _ ρ h Q hw a hl; exact ⟨_, _, _, _, .of 0 fun _ _ _ _ => rfl, hl, hw⟩
  | scope c ih =>
    intro hok ρ h Q hw a hl
    obtain ⟨e, a', h', ρ', ⟨N, hN⟩, g⟩ := ih hok hw hl
    exact ⟨e, a', h', ρ', ⟨N, fun m d g1 g2 => by simp only [exec, hN m d g1 g2]⟩, g⟩
  | region id ops draw =>
    intro hok ρ h Q hw a hl
    cases draw with
    | false =>
      simp only [codeOk] at hok
      obtain ⟨e, a', h', ρ', ⟨N, hN⟩, g⟩ := wpR_run ops.toList hok hw hl
      exact ⟨e, a', h', ρ', ⟨N, fun m d g1 g2 => by simp only [exec, hN m d g1 g2]⟩, g⟩
    | true =>
      simp only [codeOk, Bool.and_eq_true] at hok
      have hw' : wpDraw P w0 hk n ops ρ h Q := by
        unfold wp at hw
        cases hx : ex.contains id with
        | true => rw [hx, wpIf_true] at hw; exact hw
        | false => rw [hx, wpIf_false] at hw; exact wpDraw_run hok.1 (by simpa only [hx, Bool.false_or] using hok.2) hw
      obtain ⟨e, a', h', ρ', ⟨N, hN⟩, g⟩ := hw' a hl
      exact ⟨e, a', h', ρ', ⟨N, fun m d g1 g2 => by simp only [exec, hN m d g1 g2]⟩, g⟩
  | seq x y ihx ihy =>
    intro hok ρ h Q hw a hl
    simp only [codeOk, Bool.and_eq_true] at hok
    obtain ⟨e, a1, h1, ρ1, ⟨N, hN⟩, hl1, hq⟩ := ihx hok.1 hw hl
    cases e with
    | normal =>
      obtain ⟨e, a', h', ρ', ⟨M, hM⟩, hl', hq'⟩ := ihy hok.2 (show wp P w0 hk n ex y ρ1 h1 Q from hq) hl1
      exact ⟨e, a', h', ρ', ⟨max N M, fun m d g1 g2 => by simp only [exec, hN m d (by omega) (by omega), hM m d (by omega) (by omega)]⟩, hl', hq'⟩
    | exit id => exact ⟨_, _, _, _, ⟨N, fun m d g1 g2 => by simp only [exec, hN m d g1 g2]⟩, hl1, hq⟩
    | ret => exact ⟨_, _, _, _, ⟨N, fun m d g1 g2 => by simp only [exec, hN m d g1 g2]⟩, hl1, hq⟩
    | panic v => exact ⟨_, _, _, _, ⟨N, fun m d g1 g2 => by simp only [exec, hN m d g1 g2]⟩, hl1, hq⟩
  | cond c x y ihx ihy =>
    intro hok ρ h Q hw a hl
    simp only [codeOk, Bool.and_eq_true] at hok
    obtain ⟨hc, hok⟩ := hok
    obtain ⟨t, ht, hw⟩ := hw
    cases t with
    | true =>
      obtain ⟨e, a', h', ρ', ⟨N, hN⟩, g⟩ := ihx hok.1 (by simpa only [wpIf_true, wpIf_false] using hw) hl
      exact ⟨e, a', h', ρ', ⟨N, fun m d g1 g2 => by simp only [exec, hc, hl.ev, ht, hN m d g1 g2]; simp⟩, g⟩
    | false =>
      obtain ⟨e, a', h', ρ', ⟨N, hN⟩, g⟩ := ihy hok.2 (by simpa only [wpIf_true, wpIf_false] using hw) hl
      exact ⟨e, a', h', ρ', ⟨N, fun m d g1 g2 => by simp only [exec, hc, hl.ev, ht, hN m d g1 g2]; simp⟩, g⟩
  | block id body ih =>
    intro hok ρ h Q hw a hl
    obtain ⟨e, a1, h1, ρ1, ⟨N, hN⟩, hl1, hq⟩ := ih hok hw hl
    cases e with
    | exit id' => exact ⟨_, _, _, _, ⟨N, fun m d g1 g2 => by simp only [exec, hN m d g1 g2]⟩, hl1, hq⟩
    | normal => exact ⟨_, _, _, _, ⟨N, fun m d g1 g2 => by simp only [exec, hN m d g1 g2]⟩, hl1, hq⟩
    | ret => exact ⟨_, _, _, _, ⟨N, fun m d g1 g2 => by simp only [exec, hN m d g1 g2]⟩, hl1, hq⟩
    | panic v => exact ⟨_, _, _, _, ⟨N, fun m d g1 g2 => by simp only [exec, hN m d g1 g2]⟩, hl1, hq⟩
  | loop body ih =>
    intro hok ρ h Q hw a hl
    obtain ⟨k, hw⟩ := hw
    obtain ⟨e, a', h', ρ', ⟨N, hN⟩, g⟩ := wpRounds_run (ih hok) k hw hl
    exact ⟨e, a', h', ρ', ⟨N, fun m d g1 g2 => by simp only [exec, hN m m d g1 g1 g2]⟩, g⟩
  | _ => intro _ ρ h Q hw; exact hw.elim

/-! ### A function's body -/

def argL (args : List Value) : Loc := fun t => args.getD t undef

def resV (P : Program) (w0 : World) (h : Heap) (ρ : Loc) : ResultVar → Option Value
  | .tmp t => some (ρ t)
  | .cell x t => match ρ x with
    | .pointer (some ad) => iload P w0 h t ad
    | _ => none

def resL (P : Program) (w0 : World) (h : Heap) (ρ : Loc) : List ResultVar → Option (List Value)
  | [] => some []
  | r :: rs => (resV P w0 h ρ r).bind fun v => (resL P w0 h ρ rs).bind fun vs => some (v :: vs)

theorem resL_eq {n : Nat} {a : Array Value} {ρ : Loc} (hl : LocOf n a ρ) {h : Heap} : ∀ rs, iresultL P w0 h a rs = resL P w0 h ρ rs
  | [] => rfl
  | r :: rs => by
    have h1 : iresult P w0 h a r = resV P w0 h ρ r := by
      cases r with
      | tmp t => simp [iresult, resV]; exact hl.2 t
      | cell x t => simp only [iresult, resV, hl.getD x]; rfl
    simp only [iresultL, resL, h1, resL_eq hl rs]
    cases resV P w0 h ρ r <;> simp
    cases resL P w0 h ρ rs <;> simp

def retQ (P : Program) (w0 : World) (rs : List ResultVar) (Ψ : IRet → Heap → Prop) : IExit → Loc → Heap → Prop
  | .normal, ρ, h => Sat (resL P w0 h ρ rs) fun vs => Ψ (.ret (one vs)) h
  | .ret, ρ, h => Sat (resL P w0 h ρ rs) fun vs => Ψ (.ret (one vs)) h
  | .panic v, _, h => Ψ (.pan v) h
  | .exit _, _, _ => False

theorem Ans.of {f : FuncId} {args : List Value} {h : Heap} {Ψ : IRet → Heap → Prop} (hf : hk f = none) (ex : List Nat) {fn : Func} {body : Code} (hfn : P.funcs[f]? = some fn) (hb : fn.body = some body) (hok : codeOk fn.ntmps ex body = true) (hlen : args.length ≤ fn.ntmps)
    (hw : wp P w0 hk fn.ntmps ex body (argL args) h (retQ P w0 fn.results.toList Ψ)) : Ans P w0 hk f args h Ψ := by
  have hl : LocOf fn.ntmps (args.toArray ++ Array.replicate (fn.ntmps - args.length) undef) (argL args) := by
    refine ⟨by simp; omega, fun t => ?_⟩
    simp only [argL, List.getD_eq_getElem?_getD]
    by_cases h1 : t < args.length
    · have : t < args.length + (fn.ntmps - args.length) := by omega
      simp [h1, this]
    · by_cases h2 : t < args.length + (fn.ntmps - args.length)
      · rw [List.getElem?_eq_none (by omega)]
        rw [Array.getElem?_append_right (by simp; omega)]
        rw [Array.getElem?_replicate]; split <;> rfl
      · rw [List.getElem?_eq_none (by omega), Array.getElem?_eq_none (by simp; omega)]
  obtain ⟨e, a', h', ρ', ⟨N, hN⟩, hl', hq⟩ := wp_run body hok hw hl
  have key : ∀ r, (match (some (e, a', h') : Option (IExit × Array Value × Heap)) with
          | some (.normal, a, h') => (iresultL P w0 h' a fn.results.toList).map fun vs => (IRet.ret (one vs), h')
          | some (.ret, a, h') => (iresultL P w0 h' a fn.results.toList).map fun vs => (IRet.ret (one vs), h')
          | some (.panic v, _, h') => some (IRet.pan v, h')
          | _ => none) = some (r, h') → EvF P w0 hk f args h r h' := by
    intro r hr
    refine ⟨N + 1, fun m d g1 g2 => ?_⟩
    obtain ⟨d, rfl⟩ : ∃ i, d = i + 1 := ⟨d - 1, by omega⟩
    simp only [call, hf, hfn, hb, hlen, if_true, hN m d (by omega) (by omega)]
    exact hr
  cases e with
  | normal =>
    obtain ⟨vs, hvs, hq⟩ := hq
    exact ⟨_, _, key (.ret (one vs)) (by simp only [resL_eq hl', hvs, Option.map_some]), hq⟩
  | ret =>
    obtain ⟨vs, hvs, hq⟩ := hq
    exact ⟨_, _, key (.ret (one vs)) (by simp only [resL_eq hl', hvs, Option.map_some]), hq⟩
  | panic v => exact ⟨_, _, key (.pan v) rfl, hq⟩
  | exit id => exact hq.elim

/-- A told function answers what is told of it. -/
theorem Ans.hook {f : FuncId} {k : Cl → List Value → Heap → Option (IRet × Heap)} (hf : hk f = some k) {args : List Value} {h h' : Heap} {r : IRet} {Ψ : IRet → Heap → Prop} (hr : ∃ N, ∀ n d, N ≤ n → N ≤ d → k (call P w0 hk n d) args h = some (r, h')) (hq : Ψ r h') : Ans P w0 hk f args h Ψ := by
  obtain ⟨N, hN⟩ := hr
  refine ⟨r, h', ⟨N + 1, fun m d g1 g2 => ?_⟩, hq⟩
  obtain ⟨d, rfl⟩ : ∃ i, d = i + 1 := ⟨d - 1, by omega⟩
  simp only [call, hf, hN m d (by omega) (by omega)]

theorem EvF.does (hm : P.follows .mixedOrders = true) (hhk : HooksOK P w0 hk) {f : FuncId} {args : List Value} {h h' : Heap} {r : IRet} (he : EvF P w0 hk f args h r h') : Does P w0 f args h r h' := by
  obtain ⟨N, hN⟩ := he
  exact does_call hm hhk (hN N N (Nat.le_refl _) (Nat.le_refl _))

/-! ### Loops -/

theorem wp_mono {n : Nat} {ex : List Nat} {c : Code} {ρ : Loc} {h : Heap} {Q Q' : IExit → Loc → Heap → Prop} (hw : wp P w0 hk n ex c ρ h Q) (hq : ∀ e ρ' h', Q e ρ' h' → Q' e ρ' h') : wp P w0 hk n ex c ρ h Q' := by
  have opm : ∀ (ops : Array Oper) (o : Oper) (ρ : Loc) (h : Heap) (K K' : Loc → Heap → Prop) (Pn Pn' : Value → Heap → Prop), (∀ ρ h, K ρ h → K' ρ h) → (∀ v h, Pn v h → Pn' v h) → wpOp P w0 hk ops o ρ h K Pn → wpOp P w0 hk ops o ρ h K' Pn' := by
    intro ops o ρ h K K' Pn Pn' h1 h2 g3
    refine wpIf_imp g3 (fun g3 => ?_) (fun g3 => h1 _ _ g3)
    · obtain ⟨r, hr, g3⟩ := g3
      refine ⟨r, hr, ?_⟩
      cases r with
      | val v h' => exact h1 _ _ g3
      | skip h' => exact h1 _ _ g3
      | panic v => exact h2 _ _ g3
      | call f args => exact Ans.mono g3 fun r h' hr => by cases r with
        | ret v => exact h1 _ _ hr
        | pan v => exact h2 _ _ hr
  have rm : ∀ (ops : Array Oper) (l : List Oper) (ρ : Loc) (h : Heap) (Q Q' : IExit → Loc → Heap → Prop), (∀ e ρ' h', Q e ρ' h' → Q' e ρ' h') → wpR P w0 hk ops l ρ h Q → wpR P w0 hk ops l ρ h Q' := by
    intro ops l
    induction l with
    | nil => intro ρ h Q Q' hq hw; exact hq _ _ _ hw
    | cons o l ih => intro ρ h Q Q' hq hw; exact opm ops o ρ h _ _ _ _ (fun ρ h hw => ih ρ h Q Q' hq hw) (fun v h hw => hq _ _ _ hw) hw
  induction c generalizing ρ h Q Q' with
  | skip => exact hq _ _ _ hw
  | exit id => exact hq _ _ _ hw
  | ret => exact hq _ _ _ hw
  | label l => exact hq _ _ _ hw
  | scope c ih => exact ih hw hq
  | region id ops draw =>
    cases draw with
    | false => exact rm ops _ ρ h Q Q' hq hw
    | true =>
      refine wpIf_imp hw (fun hw => ?_) (fun hw => ?_)
      · intro a hl
        obtain ⟨e, a', h', ρ', g1, g2, g3⟩ := hw a hl
        exact ⟨e, a', h', ρ', g1, g2, hq _ _ _ g3⟩
      · refine rm ops _ ρ h _ _ (fun e ρ' h' he => ?_) hw
        cases e with
        | normal => exact hq _ _ _ he
        | _ => exact he.elim
  | seq x y ihx ihy =>
    refine ihx hw fun e ρ' h' he => ?_
    cases e with
    | normal => exact ihy he hq
    | _ => exact hq _ _ _ he
  | cond c x y ihx ihy =>
    obtain ⟨t, ht, hw⟩ := hw
    exact ⟨t, ht, wpIf_imp hw (fun hw => ihx hw hq) (fun hw => ihy hw hq)⟩
  | block id body ih =>
    refine ih hw fun e ρ' h' he => ?_
    cases e with
    | exit id' => exact hq _ _ _ he
    | _ => exact hq _ _ _ he
  | loop body ih =>
    obtain ⟨k, hw⟩ := hw
    refine ⟨k, ?_⟩
    induction k generalizing ρ h with
    | zero => exact hw
    | succ k ihk =>
      refine ih hw fun e ρ' h' he => ?_
      cases e with
      | normal => exact ihk he
      | _ => exact hq _ _ _ he
  | _ => exact hw.elim

/-- One more round, nearer to the end. -/
def Again (I : Nat → Loc → Heap → Prop) (k : Nat) (ρ : Loc) (h : Heap) : Prop := ∃ j, j < k ∧ I j ρ h

/-- A loop, by what holds ahead of each round; 'k' falls. (The law is told under another name, so that no 'simp' looks into it.) -/
theorem wpL_loop {n : Nat} {ex : List Nat} {body : Code} {Q : IExit → Loc → Heap → Prop} (I : Nat → Loc → Heap → Prop)
    (step : ∀ I', I' = I → ∀ k ρ h, I k ρ h → wp P w0 hk n ex body ρ h (thenQ (Again I' k) Q)) {k : Nat} {ρ : Loc} {h : Heap} (h0 : I k ρ h) : wp P w0 hk n ex (.loop body) ρ h Q := by
  have key : ∀ m k ρ h, k < m → I k ρ h → wpRounds (wp P w0 hk n ex body) m ρ h Q := by
    intro m
    induction m with
    | zero => intro k ρ h hk; omega
    | succ m ih =>
      intro k ρ h hk hi
      refine wp_mono (step I rfl k ρ h hi) fun e ρ' h' he => ?_
      cases e with
      | normal => obtain ⟨j, hj, hi'⟩ := he; exact ih j ρ' h' (by omega) hi'
      | _ => exact he
  exact ⟨k + 1, key (k + 1) k ρ h (by omega) h0⟩

end
end Go.Ideal
