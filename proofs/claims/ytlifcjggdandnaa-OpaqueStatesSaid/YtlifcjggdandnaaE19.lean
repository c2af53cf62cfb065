/- What a function does, told on its own: told functions, functions that need nothing of the heap. -/
import Derived.Test.YtlifcjggdandnaaE18
namespace Go.Ideal
open Go.RowKit
section
variable {P : Program} {w0 w : World} {h h' h2 : Heap} {μ μ' μ2 : Mp} {B : Nat}

/-- A call of a function comes, from a heap, to a result and a heap. -/
def Does (P : Program) (w0 : World) (f : FuncId) (args : List Value) (h : Heap) (r : IRet) (h' : Heap) : Prop :=
  ∀ (μ : Mp) (w : World) (args' : Array Value), RelW P w0 h μ w → RelL P w0.heap.size h μ args args'.toList →
    Calls P f args' w fun e w' => ∃ μ', RelW P w0 h' μ' w' ∧ Ext h μ h' μ' ∧ RelRet P w0.heap.size h' μ' r e

theorem clSim_does {cl : Cl} : ClSim P w0 cl ↔ ∀ f args h r h', cl f args h = some (r, h') → Does P w0 f args h r h' :=
  ⟨fun H f args h r h' hr μ w args' => H f args h r h' hr μ w args', fun H f args h r h' hr μ w args' => H f args h r h' hr μ w args'⟩

/-- Told functions: each by what it answers. -/
abbrev Told := List (FuncId × (List Value → Heap → Option (IRet × Heap)))

def Told.get : Told → FuncId → Option (List Value → Heap → Option (IRet × Heap))
  | [], _ => none
  | e :: es, f => if e.1 = f then some e.2 else Told.get es f

def Told.hooks (T : Told) : Hooks := fun f => (T.get f).map fun k _ => k

def ToldOK (P : Program) (w0 : World) (T : Told) : Prop :=
  ∀ e ∈ T, ∀ (args : List Value) (h : Heap) (r : IRet) (h' : Heap), e.2 args h = some (r, h') → Does P w0 e.1 args h r h'

theorem Told.get_mem : ∀ {T : Told} {f : FuncId} {k : List Value → Heap → Option (IRet × Heap)}, T.get f = some k → (f, k) ∈ T
  | [], _, _, hg => by simp [Told.get] at hg
  | e :: es, f, k, hg => by
    unfold Told.get at hg
    split at hg
    · rename_i he; cases hg; subst he; exact List.mem_cons_self
    · exact List.mem_cons_of_mem _ (Told.get_mem hg)

theorem ToldOK.hooks {T : Told} (hT : ToldOK P w0 T) : HooksOK P w0 T.hooks := by
  intro f k hk cl _ args h r h' hr
  unfold Told.hooks at hk
  obtain ⟨k', hg, rfl⟩ := Option.map_eq_some_iff.1 hk
  exact hT (f, k') (Told.get_mem hg) args h r h' hr

theorem ToldOK.nil : ToldOK P w0 [] := fun e he => by cases he
theorem ToldOK.cons {T : Told} {f : FuncId} {k : List Value → Heap → Option (IRet × Heap)} (h1 : ∀ (args : List Value) (h : Heap) (r : IRet) (h' : Heap), k args h = some (r, h') → Does P w0 f args h r h') (h2 : ToldOK P w0 T) : ToldOK P w0 ((f, k) :: T) := by
  intro e he
  rcases List.mem_cons.1 he with rfl | he
  · exact h1
  · exact h2 e he

theorem does_call (hm : P.follows .mixedOrders = true) {hk : Hooks} (hhk : HooksOK P w0 hk) {n d : Nat} {f : FuncId} {args : List Value} {r : IRet} (hr : call P w0 hk n d f args h = some (r, h')) : Does P w0 f args h r h' :=
  fun μ w args' => call_sim hm hhk n d f args h r h' hr μ w args'

/-! ### Values without places -/
mutual
def flatV : Value → Bool
  | .agg ⟨xs⟩ => flatL xs
  | .tuple ⟨xs⟩ => flatL xs
  | .iface _ v => flatV v
  | v => plainV v
  termination_by structural x => x
def flatL : List Value → Bool
  | [] => true
  | x :: xs => flatV x && flatL xs
  termination_by structural x => x
end

mutual
theorem flat_inv : ∀ (v u : Value), flatV v = true → RelV P B h μ v u → u = v
  | .agg ⟨xs⟩, u, hf, hv => by
    obtain ⟨⟨ys⟩, rfl, hl⟩ := hv.agg_inv
    rw [flatL_inv xs ys hf hl]
  | .tuple ⟨xs⟩, u, hf, hv => by
    obtain ⟨⟨ys⟩, rfl, hl⟩ := hv.tuple_inv
    rw [flatL_inv xs ys hf hl]
  | .iface t v, u, hf, hv => by
    cases hv with
    | plain _ hp => rfl
    | iface _ _ u hv => rw [flat_inv v u hf hv]
  | .bool _, u, hf, hv => hv.plain_inv hf
  | .int _ _, u, hf, hv => hv.plain_inv hf
  | .float _ _, u, hf, hv => hv.plain_inv hf
  | .complex _ _ _, u, hf, hv => hv.plain_inv hf
  | .string _, u, hf, hv => hv.plain_inv hf
  | .pointer _, u, hf, hv => hv.plain_inv hf
  | .slice _ _ _, u, hf, hv => hv.plain_inv hf
  | .map _, u, hf, hv => hv.plain_inv hf
  | .chan _, u, hf, hv => hv.plain_inv hf
  | .func _ _ _, u, hf, hv => hv.plain_inv hf
  | .nilFunc, u, hf, hv => hv.plain_inv hf
  | .nilIface, u, hf, hv => hv.plain_inv hf
theorem flatL_inv : ∀ (xs ys : List Value), flatL xs = true → RelL P B h μ xs ys → ys = xs
  | [], ys, hf, hl => by cases ys with | nil => rfl | cons y ys => have := hl.1; simp at this
  | x :: xs, ys, hf, hl => by
    cases ys with
    | nil => have := hl.1; simp at this
    | cons y ys =>
      simp [flatL] at hf
      rw [flat_inv x y hf.1 (hl.2 0 x y rfl rfl), flatL_inv xs ys hf.2 ⟨by have := hl.1; simpa using this, fun i v u h1 h2 => hl.2 (i + 1) v u (by simpa using h1) (by simpa using h2)⟩]
end

mutual
theorem flat_rel : ∀ (v : Value), flatV v = true → RelV P B h μ v v
  | .agg ⟨xs⟩, hf => RelL.agg (flatL_rel xs hf)
  | .tuple ⟨xs⟩, hf => RelL.tuple (flatL_rel xs hf)
  | .iface t v, hf => .iface t v v (flat_rel v hf)
  | .bool _, hf => .plain _ hf
  | .int _ _, hf => .plain _ hf
  | .float _ _, hf => .plain _ hf
  | .complex _ _ _, hf => .plain _ hf
  | .string _, hf => .plain _ hf
  | .pointer _, hf => .plain _ hf
  | .slice _ _ _, hf => .plain _ hf
  | .map _, hf => .plain _ hf
  | .chan _, hf => .plain _ hf
  | .func _ _ _, hf => .plain _ hf
  | .nilFunc, hf => .plain _ hf
  | .nilIface, hf => .plain _ hf
theorem flatL_rel : ∀ (xs : List Value), flatL xs = true → RelL P B h μ xs xs
  | [], hf => RelL.nil
  | x :: xs, hf => by
    simp [flatL] at hf
    exact RelL.cons (flat_rel x hf.1) (flatL_rel xs hf.2)
end

theorem relW_base (w : World) : RelW P w [] [] w :=
  ⟨rfl, fun i j p q hp => by simp at hp, fun i p hp => by simp at hp, fun i o p ho => by simp at ho, Below.refl _ _⟩

/-- New blocks do no harm. -/
theorem RelW.later (hw : RelW P w0 h μ w) {w' : World} (hb : Below w.heap.size w w') : RelW P w0 h μ w' ∧ Ext h μ h μ := by
  refine ⟨⟨hw.len, hw.inj, hw.ge, fun i o p ho hp => ?_, ?_⟩, Ext.refl _ _⟩
  · have hlt := hw.block_lt ho hp
    have heq : w'.heap[p.1]? = w.heap[p.1]? := hb.block p.1 hlt
    have := hw.obj i o p ho hp
    cases o with
    | row cs e g => obtain ⟨c, h1, h2⟩ := this; exact ⟨c, heq ▸ h1, h2⟩
    | map es => obtain ⟨c, k, h1, h2⟩ := this; exact ⟨c, k, heq ▸ h1, h2⟩
  · exact ⟨hb.os.trans hw.below.os, hb.tape.trans hw.below.tape, hb.output.trans hw.below.output, Nat.le_trans hw.below.size hb.size, fun b hlt => by
      rw [hb.block b (Nat.lt_of_lt_of_le hlt hw.below.size), hw.below.block b hlt]⟩

/-- A function of values without places that answers one: it does so in whatever heap, and the heap stays. -/
theorem Does.rebase {f : FuncId} {args : List Value} {v : Value} (ha : flatL args = true) (hv : flatV v = true) (hd : ∀ w1, ∃ h1, Does P w1 f args [] (.ret v) h1) : Does P w0 f args h (.ret v) h := by
  intro μ w args' hw hl
  obtain ⟨h1, hd⟩ := hd w
  have hargs := flatL_inv args args'.toList ha hl
  refine (hd [] w args' (relW_base w) (by rw [hargs]; exact flatL_rel _ ha)).mono fun e w' ⟨μ', g1, g2, g3⟩ => ?_
  obtain ⟨k1, k2⟩ := hw.later g1.below
  refine ⟨μ, k1, k2, ?_⟩
  cases e with
  | returned u =>
    have : u = v := flat_inv v u hv g3
    subst this
    exact flat_rel u hv
  | panicked c => exact g3.elim
  | outgrown => exact g3.elim

end
end Go.Ideal
