/- One operation, related. -/
import Derived.Test.YtlifcjggdandnaaE11
namespace Go.Ideal
open Go.RowKit
section
variable {P : Program} {w0 w : World} {h h' h2 : Heap} {μ μ' μ2 : Mp} {B : Nat}

theorem relL_map {ρ ρ' : Operand → Value} : ∀ (xs : List Operand), (∀ x ∈ xs, RelV P B h μ (ρ x) (ρ' x)) → RelL P B h μ (xs.map ρ) (xs.map ρ')
  | [], _ => .nil
  | x :: xs, hx => .cons (hx x (by simp)) (relL_map xs fun y hy => hx y (by simp [hy]))

theorem relOp_map {ρ ρ' : Operand → Value} {x : Option Operand} (hx : ∀ y, x = some y → RelV P B h μ (ρ y) (ρ' y)) : RelOp P B h μ (x.map ρ) (x.map ρ') := by
  cases x with
  | none => trivial
  | some y => exact hx y rfl

theorem RelV.func_inv {f : Fn} {xs cs : Array Value} {u : Value} (hv : RelV P B h μ (.func f xs cs) u) : ∃ ys ds, u = .func f ys ds ∧ RelL P B h μ xs.toList ys.toList ∧ RelL P B h μ cs.toList ds.toList := by
  cases hv with
  | plain _ hp => simp [plainV] at hp
  | func _ _ ys _ ds hs hx hs' hc => exact ⟨ys, ds, rfl, relL_of hs hx, relL_of hs' hc⟩

theorem relV_func {f : Fn} {xs ys cs ds : Array Value} (h1 : RelL P B h μ xs.toList ys.toList) (h2 : RelL P B h μ cs.toList ds.toList) : RelV P B h μ (.func f xs cs) (.func f ys ds) :=
  .func f xs ys cs ds (by simpa using h1.1) (fun i a b => h1.2 i _ _ (by simp [a]) (by simp [b])) (by simpa using h2.1) (fun i a b => h2.2 i _ _ (by simp [a]) (by simp [b]))

theorem run_callFunc {g : FuncId} (hc : icallable P g = true) (args : Array Value) : (callFunc g args).run P w = .ok (.enter g args) w := by
  unfold icallable at hc
  cases hf : P.funcs[g]? with
  | none => simp [hf] at hc
  | some fn =>
    simp only [hf, Bool.and_eq_true, Bool.not_eq_true'] at hc
    obtain ⟨h1, h2⟩ := hc
    have h2' : ¬ fn.name = "runtime.NumGoroutine" := by simpa using h2
    have h3 : ¬ fn.body = none := by intro hn; rw [hn] at h1; simp at h1
    simp [callFunc, hf, h2', h3]

theorem icall_sim {f f' : Value} {args args' : List Value} {r : IRes} (hf : RelV P w0.heap.size h μ f f') (ha : RelL P w0.heap.size h μ args args') (hr : icall P f args = some r) :
    Sim P w0 h μ w r ((do let d ← Deferred.ofValue f' args'.toArray; invoke d.target d.args : Sem Next).run P w) := by
  unfold icall at hr
  split at hr
  · rename_i g first captured
    obtain ⟨ys, ds, rfl, h1, h2⟩ := hf.func_inv
    split at hr
    · rename_i hc
      cases hr
      refine ⟨ys ++ args'.toArray ++ ds, ?_, by simpa using (h1.append ha).append h2⟩
      simp [Deferred.ofValue, invoke, run_callFunc hc]
    · cases hr
  · cases hr

theorem ibuiltin_sim (hw : RelW P w0 h μ w) {b : Builtin} {ts : Array TypeId} {ty : TypeId} {cs : Array Bool} {args : List Value} {args' : Array Value} {r : IRes} (ha : RelL P w0.heap.size h μ args args'.toList)
    (hr : ibuiltin P w0 h b ts.toList args = some r) : Sim P w0 h μ w r ((builtin b ts ty cs args').run P w) := by
  have two : ∀ x y, args = [x, y] → ∃ x' y', args' = #[x', y'] ∧ RelV P w0.heap.size h μ x x' ∧ RelV P w0.heap.size h μ y y' := fun x y hxy => by
    subst hxy
    have h1 := ha.1
    obtain ⟨l⟩ := args'
    match l, h1 with
    | [x', y'], _ => exact ⟨x', y', rfl, ha.2 0 _ _ rfl rfl, ha.2 1 _ _ rfl rfl⟩
  have one : ∀ x, args = [x] → ∃ x', args' = #[x'] ∧ RelV P w0.heap.size h μ x x' := fun x hxy => by
    subst hxy
    have h1 := ha.1
    obtain ⟨l⟩ := args'
    match l, h1 with
    | [x'], _ => exact ⟨x', rfl, ha.2 0 _ _ rfl rfl⟩
  unfold ibuiltin at hr
  split at hr
  · rename_i t tx s x hts
    obtain ⟨s', x', rfl, h1, h2⟩ := two s x rfl
    have : ts = #[t, tx] := by cases ts; simp at hts; rw [hts]
    subst this
    exact iappend_sim hw h1 h2 hr
  · rename_i t x hts
    obtain ⟨x', rfl, h1⟩ := one x rfl
    have : ts = #[t] := by cases ts; simp at hts; rw [hts]
    subst this
    obtain ⟨v, hv, rfl⟩ := Option.map_eq_some_iff.1 hr
    obtain ⟨hrun, hp⟩ := ilenB_sim (w := w) (ty := ty) h1 hv
    exact sim_val hw (by simp [builtin, hrun]) (.plain _ hp)
  · rename_i t tr d s hts
    obtain ⟨d', s', rfl, h1, h2⟩ := two d s rfl
    have hts' : ts.toList = t :: tr := hts
    have hcopy : ∀ tx, Builtin.copy_ ts ty #[d', s'] = Builtin.copy_ #[t, tx] ty #[d', s'] := fun tx => by
      have e : ts[0]? = some t := by rw [← Array.getElem?_toList, hts']; rfl
      simp [Builtin.copy_, e]
    have := icopy_sim (tx := t) (ty := ty) hw h1 h2 hr
    simpa [builtin, hcopy t] using this
  · rename_i t x hts
    obtain ⟨x', rfl, h1⟩ := one x rfl
    have : ts = #[t] := by cases ts; simp at hts; rw [hts]
    subst this
    exact iclear_sim hw h1 hr
  · obtain ⟨v, hv, rfl⟩ := Option.map_eq_some_iff.1 hr
    obtain ⟨hrun, hp⟩ := iminmax_sim (w := w) true (ts := ts) (ty := ty) ha hv
    simp only [if_true] at hrun
    exact sim_val hw (by simp [builtin, hrun]) (.plain _ hp)
  · obtain ⟨v, hv, rfl⟩ := Option.map_eq_some_iff.1 hr
    obtain ⟨hrun, hp⟩ := iminmax_sim (w := w) false (ts := ts) (ty := ty) ha hv
    simp only [Bool.false_eq_true, if_false] at hrun
    exact sim_val hw (by simp [builtin, hrun]) (.plain _ hp)
  · cases hr

theorem parts_fst (ps : Array (Nat × Operand)) (ρ ρ' : Operand → Value) :
    (ps.toList.map fun (i, x) => (i, ρ x)).map (·.1) = ((ps.map fun (i, x) => (i, ρ' x)).toList).map (·.1) := by simp [Function.comp_def]

theorem parts_snd {ρ ρ' : Operand → Value} (ps : Array (Nat × Operand)) (hx : ∀ p ∈ ps.toList, RelV P B h μ (ρ p.2) (ρ' p.2)) :
    RelL P B h μ ((ps.toList.map fun (i, x) => (i, ρ x)).map (·.2)) (((ps.map fun (i, x) => (i, ρ' x)).toList).map (·.2)) := by
  have : ∀ (l : List (Nat × Operand)), (∀ p ∈ l, RelV P B h μ (ρ p.2) (ρ' p.2)) → RelL P B h μ (l.map fun p => ρ p.2) (l.map fun p => ρ' p.2) := by
    intro l
    induction l with
    | nil => intro _; exact .nil
    | cons p l ih => intro hp; exact .cons (hp p (by simp)) (ih fun q hq => hp q (by simp [hq]))
  simpa [Function.comp_def] using this ps.toList hx

theorem iop_sim (hw : RelW P w0 h μ w) {ρ ρ' : Operand → Value} {o : Oper} {r : IRes} (hρ : ∀ x ∈ o.op.operands, RelV P w0.heap.size h μ (ρ x) (ρ' x)) (hr : iop P w0 h ρ o = some r) :
    Sim P w0 h μ w r ((execOp ρ' o).run P w) := by
  obtain ⟨dst, op, ty, pos, after, guard⟩ := o
  simp only at hρ
  unfold iop at hr
  unfold execOp
  split at hr <;> rename_i hop <;> (try simp only at hop) <;> (try subst hop) <;> (try simp only [Op.operands] at hρ)
  · cases hr; exact sim_val hw (by simp) (hρ _ (by simp))
  · cases hr; exact sim_val hw (by simp) (hρ _ (by simp))
  · rename_i c a b
    split at hr
    · rename_i t hc
      cases hr
      have h1 := hρ c (by simp)
      rw [hc] at h1
      have hc' := h1.bool_inv
      refine sim_val hw (u := bif t then ρ' a else ρ' b) ?_ ?_
      · simp only [hc', asBool]; cases t <;> simp
      · cases t
        · exact hρ b (by simp)
        · exact hρ a (by simp)
    · cases hr
  · rename_i e
    obtain ⟨z, hz, rfl⟩ := Option.map_eq_some_iff.1 hr
    obtain ⟨i, z0, hi, h0, hzc, hpl, hsz⟩ := izero_spec hz
    obtain ⟨h1, h2⟩ := row_push (e := e) (cs := z0.cells) hw (cells := z) (by rw [hzc]; exact RelL.plain hpl)
    refine ⟨.pointer (some ⟨w.heap.size, 0, none⟩), _, _, ?_, h1, h2, .ptr _ _ (new_addr (.row z e 0) _ hw.len rfl)⟩
    simp [Instr.alloc, run_zeroValue hi h0, newVar, run_newRow]
  · rename_i e x
    split at hr
    · cases hr
      obtain ⟨h1, h2⟩ := row_push (e := e) (cs := (ρ' x).cells) hw (hρ x (by simp)).cells
      refine ⟨.pointer (some ⟨w.heap.size, 0, none⟩), _, _, ?_, h1, h2, .ptr _ _ (new_addr (.row (vcells (ρ x)) e 0) _ hw.len rfl)⟩
      simp [Instr.box, newVar, run_newRow]
    · cases hr
  · rename_i t parts
    obtain ⟨v, hv, rfl⟩ := Option.map_eq_some_iff.1 hr
    obtain ⟨u, hu, hrel⟩ := ibuild_sim (w := w) (parts_fst parts ρ ρ') (parts_snd parts fun p hp => hρ _ (by simp; exact ⟨p.1, by simpa using hp⟩)) hv
    rw [Array.toArray_toList] at hu
    exact sim_val hw (by rw [Sem.run_bind, hu]; rfl) hrel
  · rename_i t len parts
    have := ibuildSlice_sim hw (parts_fst parts ρ ρ') (parts_snd parts fun p hp => hρ _ (by simp; exact ⟨p.1, by simpa using hp⟩)) hr
    rw [Array.toArray_toList] at this
    exact this
  · rename_i t x
    split at hr
    · rename_i a hx
      obtain ⟨v, hv, rfl⟩ := Option.map_eq_some_iff.1 hr
      have h1 := hρ x (by simp)
      rw [hx] at h1
      obtain ⟨a', hx', ha⟩ := h1.ptr_inv
      obtain ⟨u, hu, hrel⟩ := iload_sim hw ha hv
      exact sim_val hw (by simp [Instr.loadAt, hx', Instr.sureAddr, hu]) hrel
    · cases hr
  · rename_i t x y
    split at hr
    · rename_i a hx
      obtain ⟨h3, hst, rfl⟩ := Option.map_eq_some_iff.1 hr
      have h1 := hρ x (by simp)
      rw [hx] at h1
      obtain ⟨a', hx', ha⟩ := h1.ptr_inv
      obtain ⟨w', hu, h2, h4⟩ := istore_sim hw ha (hρ y (by simp)) hst
      exact ⟨w', μ, by simp [Instr.storeAt, hx', Instr.sureAddr, hu], h2, h4⟩
    · cases hr
  · rename_i x
    split at hr
    · rename_i a hx
      cases hr
      have h1 := hρ x (by simp)
      rw [hx] at h1
      obtain ⟨a', hx', ha⟩ := h1.ptr_inv
      exact sim_val hw (u := .pointer (some a')) (by simp [hx']) (.ptr _ _ ha)
    · rename_i f first cap hx
      cases hr
      have h1 := hρ x (by simp)
      rw [hx] at h1
      obtain ⟨ys, ds, hx', _, _⟩ := h1.func_inv
      exact sim_val hw (u := .func (.func f) ys ds) (by simp [hx']) (by rw [hx'] at h1; exact h1)
    · cases hr
  · rename_i op t x y yt
    obtain ⟨v, hv, rfl⟩ := Option.map_eq_some_iff.1 hr
    obtain ⟨hrun, hp⟩ := ibin_sim (w := w) x y hv (hρ x (by simp)) (hρ y (by simp))
    exact sim_val hw (u := v) (by rw [Sem.run_bind, hrun]; rfl) (.plain _ hp)
  · rename_i op t x
    obtain ⟨v, hv, rfl⟩ := Option.map_eq_some_iff.1 hr
    obtain ⟨hrun, hp⟩ := iun_sim (w := w) hv (hρ x (by simp))
    exact sim_val hw (u := v) (by simp [hrun]) (.plain _ hp)
  · rename_i s d x
    obtain ⟨v, hv, rfl⟩ := Option.map_eq_some_iff.1 hr
    obtain ⟨hrun, hp⟩ := iconvert_sim (w := w) (hρ x (by simp)) hv
    exact sim_val hw (u := v) (by simp [hrun]) (.plain _ hp)
  · rename_i t x
    split at hr
    · cases hr
    · rename_i d hni ht
      cases hr
      refine sim_val hw (u := .iface t (ρ' x)) ?_ (.iface _ _ _ (hρ x (by simp)))
      cases d <;> first | (simp [Instr.makeInterface, run_underlying ht]; done) | (exact absurd rfl (hni _))
    · cases hr
  · rename_i f first captured
    cases hr
    refine sim_val hw (u := .func (.func f) (first.map ρ') (captured.map ρ')) (by simp [Instr.makeFunc]) (relV_func ?_ ?_)
    · rw [Array.toList_map, Array.toList_map]; exact relL_map _ fun x hx => hρ x (by simp; exact .inl (by simpa using hx))
    · rw [Array.toList_map, Array.toList_map]; exact relL_map _ fun x hx => hρ x (by simp; exact .inr (by simpa using hx))
  · rename_i t r'
    have push : ∀ (rr : Option Value), (Instr.makeMap t rr).run P w = .ok (.map (some w.heap.size)) (w.alloc (.map #[] 0)) →
        Sim P w0 h μ w (.val (.map (some h.length)) (h ++ [.map []])) ((do pure (.value (← Instr.makeMap t rr)) : Sem Next).run P w) := fun rr hrun => by
      obtain ⟨h1, h2⟩ := hw.push (o := .map []) (O := .map #[] 0) (n := 0) ⟨#[], 0, heap_alloc_new w _, rfl, by simp⟩
      exact ⟨_, _, _, by rw [Sem.run_bind, hrun]; rfl, h1, h2, .map h.length [] (w.heap.size, 0) (by simp) (last_at hw.len)⟩
    split at hr
    · rename_i ht hrn
      cases hr
      have : r' = none := by cases r' <;> simp at hrn; rfl
      subst this
      exact push none (by simp [Instr.makeMap])
    · rename_i ht hrn
      cases hr
      obtain ⟨x, rfl, hx⟩ := Option.map_eq_some_iff.1 hrn
      have h1 := hρ x (by simp)
      rw [hx] at h1
      have hx' := h1.int_inv
      exact push (some (ρ' x)) (by simp [Instr.makeMap, run_underlying ht, hx', asInt, asIntOf])
    · cases hr
  · rename_i t l c
    have := imakeSlice_sim hw (hρ l (by simp)) (hρ c (by simp)) hr
    simpa using this
  · rename_i t x lo hi mx
    obtain ⟨v, hv, rfl⟩ := Option.map_eq_some_iff.1 hr
    obtain ⟨u, hu, hrel⟩ := islice_sim hw (hρ x (by simp)) (relOp_map fun y hy => hρ y (by subst hy; simp)) (relOp_map fun y hy => hρ y (by subst hy; simp)) (relOp_map fun y hy => hρ y (by subst hy; simp)) hv
    exact sim_val hw (by simp [hu]) hrel
  · rename_i t x k
    obtain ⟨v, hv, rfl⟩ := Option.map_eq_some_iff.1 hr
    obtain ⟨u, hu, hrel⟩ := ifieldAddr_sim (w := w) (hρ x (by simp)) hv
    exact sim_val hw (by simp [hu]) hrel
  · rename_i t x k
    obtain ⟨v, hv, rfl⟩ := Option.map_eq_some_iff.1 hr
    obtain ⟨u, hu, hrel⟩ := ifield_sim (w := w) (hρ x (by simp)) hv
    exact sim_val hw (by simp [hu]) hrel
  · rename_i t x i
    obtain ⟨v, hv, rfl⟩ := Option.map_eq_some_iff.1 hr
    obtain ⟨u, hu, hrel⟩ := iindexAddr_sim (w := w) (hρ x (by simp)) (hρ i (by simp)) hv
    exact sim_val hw (by simp [hu]) hrel
  · rename_i t x i
    obtain ⟨v, hv, rfl⟩ := Option.map_eq_some_iff.1 hr
    obtain ⟨u, hu, hrel⟩ := iindex_sim (w := w) (hρ x (by simp)) (hρ i (by simp)) hv
    exact sim_val hw (by simp [hu]) hrel
  · rename_i t x i ok
    obtain ⟨v, hv, rfl⟩ := Option.map_eq_some_iff.1 hr
    obtain ⟨u, hu, hrel⟩ := ilookup_sim hw (hρ x (by simp)) (hρ i (by simp)) hv
    exact sim_val hw (by simp [hu]) hrel
  · rename_i t m k x
    obtain ⟨h3, hst, rfl⟩ := Option.map_eq_some_iff.1 hr
    obtain ⟨w', hu, h2, h4⟩ := imapUpdate_sim hw (hρ m (by simp)) (hρ k (by simp)) (hρ x (by simp)) hst
    exact ⟨w', μ, by simp [hu], h2, h4⟩
  · rename_i x xt t ok
    obtain ⟨v, hv, rfl⟩ := Option.map_eq_some_iff.1 hr
    obtain ⟨u, hu, hrel⟩ := itypeAssert_sim (w := w) (xt := xt) (hρ x (by simp)) hv
    exact sim_val hw (by simp [hu]) hrel
  · rename_i t i
    split at hr
    · rename_i vs ht
      obtain ⟨v, hv, rfl⟩ := Option.map_eq_some_iff.1 hr
      have h1 := hρ t (by simp)
      rw [ht] at h1
      obtain ⟨ys, ht', hl⟩ := h1.tuple_inv
      have hi : i < ys.size := by have := (Array.getElem?_eq_some_iff.1 hv).1; have := hl.1; simp at this; omega
      exact sim_val hw (u := ys[i]) (by simp [Instr.extract, ht', hi]) (hl.2 i v _ (by simpa using hv) (by simp [hi]))
    · cases hr
  · rename_i c
    split at hr
    · rename_i f hf
      have hargs : RelL P w0.heap.size h μ (c.args.toList.map ρ) (c.args.toList.map ρ') := relL_map _ fun x hx => hρ x (by simp [Call.operands, hf]; exact .inr (by simpa using hx))
      have := icall_sim (w := w) (hρ f (by simp [Call.operands, hf])) hargs hr
      have e : c.args.map ρ' = (c.args.toList.map ρ').toArray := by apply Array.ext'; simp
      simpa [resolve, hf, e] using this
    · rename_i b hb
      have hargs : RelL P w0.heap.size h μ (c.args.toList.map ρ) (c.args.map ρ').toList := by
        rw [Array.toList_map]; exact relL_map _ fun x hx => hρ x (by simp [Call.operands, hb]; simpa using hx)
      simp only [resolve, hb, invoke, Sem.run_bind, Sem.run_pure, Result.andThen_ok]
      exact ibuiltin_sim hw hargs hr
    · cases hr
  · rename_i x
    split at hr
    · rename_i t v hx
      cases hr
      have h1 := hρ x (by simp)
      rw [hx] at h1
      generalize hu : ρ' x = u' at h1
      cases h1 with
      | plain _ hp => simp [plainV] at hp
      | iface _ _ u hv => exact ⟨.iface t u, by simp [hu, Instr.panic], .iface _ _ _ hv⟩
    · cases hr
  · cases hr

end
end Go.Ideal
namespace Go.Ideal
open Go.RowKit
section
variable {P : Program} {w0 w : World} {h h' h2 : Heap} {μ μ' μ2 : Mp} {B : Nat}

def RelRet (P : Program) (B : Nat) (h : Heap) (μ : Mp) : IRet → Ending → Prop
  | .ret v, .returned u => RelV P B h μ v u
  | .pan v, .panicked c => ∃ u, c = [{ v := u, recovered := false }] ∧ RelV P B h μ v u
  | _, _ => False

/-- What a call of this machine says of the model's. -/
def ClSim (P : Program) (w0 : World) (cl : Cl) : Prop :=
  ∀ (f : FuncId) (args : List Value) (h : Heap) (r : IRet) (h' : Heap), cl f args h = some (r, h') → ∀ (μ : Mp) (w : World) (args' : Array Value), RelW P w0 h μ w → RelL P w0.heap.size h μ args args'.toList →
    Calls P f args' w fun e w' => ∃ μ', RelW P w0 h' μ' w' ∧ Ext h μ h' μ' ∧ RelRet P w0.heap.size h' μ' r e

/-- What has to hold where a piece of code is left. -/
def Fin (P : Program) (w0 : World) (h : Heap) (μ : Mp) (e : IExit) (a' : Array Value) (h' : Heap) (Q : Exit → Act → World → Prop) : Prop :=
  ∀ (at' : Act) (μ' : Mp) (w' : World), at'.defers = [] → RelW P w0 h' μ' w' → Ext h μ h' μ' →
    match e with
    | .normal => RelL P w0.heap.size h' μ' a'.toList at'.tmps.toList → Q .normal at' w'
    | .exit id => RelL P w0.heap.size h' μ' a'.toList at'.tmps.toList → Q (.exit id) at' w'
    | .ret => RelL P w0.heap.size h' μ' a'.toList at'.tmps.toList → Q .ret at' w'
    | .panic v => ∀ u, RelV P w0.heap.size h' μ' v u → Q (.panic [{ v := u, recovered := false }]) at' w'

theorem Fin.mono {e : IExit} {a' : Array Value} {Q : Exit → Act → World → Prop} (hf : Fin P w0 h μ e a' h' Q) (he : Ext h μ h2 μ2) : Fin P w0 h2 μ2 e a' h' Q :=
  fun at' μ' w' h1 h3 h4 => hf at' μ' w' h1 h3 (he.trans h4)

theorem relL_get {a b : Array Value} (hl : RelL P B h μ a.toList b.toList) (t : Nat) : RelV P B h μ (a.getD t undef) (b.getD t undef) := by
  have hs : a.size = b.size := by simpa using hl.1
  simp only [Array.getD]
  by_cases ht : t < a.size
  · have ht' : t < b.size := hs ▸ ht
    rw [dif_pos ht, dif_pos ht']
    exact hl.2 t _ _ (by simp [ht]) (by simp [ht'])
  · have ht' : ¬ t < b.size := hs ▸ ht
    rw [dif_neg ht, dif_neg ht']
    exact RelL.tuple (by simpa using RelL.nil)

theorem ev_sim {a : Array Value} {at' : Act} (hl : RelL P B h μ a.toList at'.tmps.toList) {x : Operand} (hc : constOk x = true) : RelV P B h μ (ev a x) (at'.eval x) := by
  cases x with
  | tmp t => exact relL_get hl t
  | const v => exact .plain v hc
  | global g => simp [constOk] at hc
  | func f => exact relV_func (by simpa using RelL.nil) (by simpa using RelL.nil)

theorem relL_set {a b : Array Value} (hl : RelL P B h μ a.toList b.toList) (t : Nat) {v u : Value} (hv : RelV P B h μ v u) : RelL P B h μ (a.setIfInBounds t v).toList (b.setIfInBounds t u).toList := by
  refine ⟨by simpa using hl.1, fun i x y hx hy => ?_⟩
  rw [Array.toList_setIfInBounds] at hx hy
  by_cases hti : t = i
  · subst hti
    have h1 : t < a.toList.length := by have := (List.getElem?_eq_some_iff.1 hx).1; simpa using this
    rw [List.getElem?_set_self h1] at hx
    rw [List.getElem?_set_self (by rw [← hl.1]; exact h1)] at hy
    cases hx; cases hy
    exact hv
  · rw [List.getElem?_set_ne hti] at hx hy
    exact hl.2 i x y hx hy

theorem iput_sim {a : Array Value} {at' : Act} (hl : RelL P B h μ a.toList at'.tmps.toList) (d : Option Tmp) {v u : Value} (hv : RelV P B h μ v u) : RelL P B h μ (iput a d v).toList (at'.put d u).tmps.toList := by
  cases d with
  | none => exact hl
  | some t => exact relL_set hl t hv

theorem put_defers (at' : Act) (d : Option Tmp) (u : Value) : (at'.put d u).defers = at'.defers := by cases d <;> rfl

theorem RelV.bool_iff {v u : Value} (hv : RelV P B h μ v u) (b : Bool) : v = .bool b ↔ u = .bool b := by
  constructor
  · rintro rfl; exact hv.bool_inv
  · intro hu
    cases hv <;> first | exact hu | cases hu

theorem yielded_sim {ops : Array Oper} {a b : Array Value} (hl : RelL P B h μ a.toList b.toList) : yielded ops a = yielded ops b := by
  funext j
  unfold yielded
  cases hd : (ops[j]?).bind (·.dst) with
  | none => rfl
  | some t =>
    have hs : a.size = b.size := by simpa using hl.1
    simp only [Option.bind_some]
    by_cases ht : t < a.size
    · have ht' : t < b.size := hs ▸ ht
      have hr := hl.2 t a[t] b[t] (by simp [ht]) (by simp [ht'])
      rw [Array.getElem?_eq_getElem ht, Array.getElem?_eq_getElem ht']
      generalize a[t] = x at hr
      generalize b[t] = y at hr
      have := fun c => hr.bool_iff c
      split
      · rename_i c hc
        cases hc
        rw [(this c).1 rfl]
      · rename_i hne
        split
        · rename_i c hc
          cases hc
          exact absurd (by rw [(this c).2 rfl]) (hne c)
        · rfl
    · have ht' : ¬ t < b.size := hs ▸ ht
      rw [Array.getElem?_eq_none (Nat.le_of_not_lt ht), Array.getElem?_eq_none (Nat.le_of_not_lt ht')]

/-- An operation that is wanted: what it does, and how the model goes on. -/
theorem oper_sim {cl : Cl} (hcl : ClSim P w0 cl) (hw : RelW P w0 h μ w) {a : Array Value} {at' : Act} (hl : RelL P w0.heap.size h μ a.toList at'.tmps.toList) {o : Oper}
    (hc : o.op.operands.toList.all constOk = true) {r : IRes} (hr : iop P w0 h (ev a) o = some r) {next : Act → World → Prop} {Q : Exit → Act → World → Prop}
    (hval : ∀ v h', (r = .val v h' ∨ (r = .skip h' ∧ v = undef) ∨ ∃ f args, r = .call f args ∧ cl f args h = some (.ret v, h')) →
      ∀ u w' μ', RelW P w0 h' μ' w' → Ext h μ h' μ' → RelV P w0.heap.size h' μ' v u → next (at'.put o.dst u) w')
    (hpan : ∀ v h', ((r = .panic v ∧ h' = h) ∨ ∃ f args, r = .call f args ∧ cl f args h = some (.pan v, h')) →
      ∀ u w' μ', RelW P w0 h' μ' w' → Ext h μ h' μ' → RelV P w0.heap.size h' μ' v u → Q (.panic [{ v := u, recovered := false }]) at' w')
    (hdone : ∀ f args, r = .call f args → (cl f args h).isSome) :
    o.wp P at' w next Q := by
  have hs := iop_sim hw (ρ := ev a) (ρ' := at'.eval) (o := o) (fun x hx => ev_sim hl (List.all_eq_true.1 hc x (by simpa using hx))) hr
  unfold Oper.wp
  cases r with
  | val v h' =>
    obtain ⟨u, w', μ', hrun, h1, h3, h4⟩ := hs
    rw [hrun]
    exact hval v h' (.inl rfl) u w' μ' h1 h3 h4
  | skip h' =>
    obtain ⟨w', μ', hrun, h1, h3⟩ := hs
    rw [hrun]
    exact hval undef h' (.inr (.inl ⟨rfl, rfl⟩)) undef w' μ' h1 h3 (RelL.tuple (by simpa using RelL.nil))
  | call f args =>
    obtain ⟨args', hrun, h1⟩ := hs
    rw [hrun]
    cases hcl' : cl f args h with
    | none => have := hdone f args rfl; rw [hcl'] at this; simp at this
    | some res =>
      obtain ⟨ir, h'⟩ := res
      refine (hcl f args h ir h' hcl' μ w args' hw h1).mono fun e w' ⟨μ', g1, g2, g3⟩ => ?_
      cases ir with
      | ret v =>
        cases e with
        | returned u => exact hval v h' (.inr (.inr ⟨f, args, rfl, hcl'⟩)) u w' μ' g1 g2 g3
        | panicked c => exact g3.elim
        | outgrown => exact g3.elim
      | pan v =>
        cases e with
        | returned u => exact g3.elim
        | panicked c => obtain ⟨u, rfl, hv⟩ := g3; exact hpan v h' (.inr ⟨f, args, rfl, hcl'⟩) u w' μ' g1 g2 hv
        | outgrown => exact g3.elim
  | panic v =>
    obtain ⟨u, hrun, h1⟩ := hs
    rw [hrun]
    exact hpan v h (.inl ⟨rfl, rfl⟩) u w μ hw (Ext.refl _ _) h1

theorem irun_sim {cl : Cl} (hcl : ClSim P w0 cl) (ops : Array Oper) : ∀ (l : List Oper) (a : Array Value) (h : Heap) (e : IExit) (a' : Array Value) (h' : Heap), irun P w0 cl ops l a h = some (e, a', h') →
    ∀ (μ : Mp) (w : World) (at' : Act) (Q : Exit → Act → World → Prop), at'.defers = [] → RelW P w0 h μ w → RelL P w0.heap.size h μ a.toList at'.tmps.toList → Fin P w0 h μ e a' h' Q → wpList P ops Q l at' w
  | [], a, h, e, a', h', hr, μ, w, at', Q, hd, hw, hl, hf => by
    simp [irun] at hr
    obtain ⟨rfl, rfl, rfl⟩ := hr
    exact hf at' μ w hd hw (Ext.refl _ _) hl
  | o :: l, a, h, e, a', h', hr, μ, w, at', Q, hd, hw, hl, hf => by
    have hund : RelV P w0.heap.size h μ undef undef := RelL.tuple (by simpa using RelL.nil)
    simp only [irun] at hr
    unfold wpList
    rw [← yielded_sim (ops := ops) hl]
    have hfinish : ∀ (r : IRes), o.op.operands.toList.all constOk = true → iop P w0 h (ev a) o = some r →
        (∀ v h3, (r = .val v h3 ∨ (r = .skip h3 ∧ v = undef) ∨ ∃ f args, r = .call f args ∧ cl f args h = some (.ret v, h3)) → istep P w0 cl ops o a h = some (.go (iput a o.dst v) h3)) →
        (∀ v h3, ((r = .panic v ∧ h3 = h) ∨ ∃ f args, r = .call f args ∧ cl f args h = some (.pan v, h3)) → istep P w0 cl ops o a h = some (.pan v h3)) →
        (∀ f args, r = .call f args → (cl f args h).isSome) → o.wp P at' w (wpList P ops Q l) Q := by
      intro r hc hop hgo hpan hdone
      refine oper_sim hcl hw hl hc hop (fun v h3 hv u w' μ' g1 g2 g3 => ?_) (fun v h3 hv u w' μ' g1 g2 g3 => ?_) hdone
      · rw [hgo v h3 hv] at hr
        exact irun_sim hcl ops l _ _ e a' h' hr μ' w' _ Q (by rw [put_defers]; exact hd) g1 (iput_sim (hl.mono g2) _ g3) (hf.mono g2)
      · rw [hpan v h3 hv] at hr
        cases hr
        exact hf at' μ' w' hd g1 g2 u g3
    by_cases hc : o.op.operands.toList.all constOk = true
    · by_cases hwant : Region.wanted o (yielded ops a) = true
      · rw [if_pos hwant]
        refine .inl ?_
        cases hop : iop P w0 h (ev a) o with
        | none => simp [istep, hc, hwant, hop] at hr
        | some r =>
          refine hfinish r hc hop (fun v h3 hv => ?_) (fun v h3 hv => ?_) (fun f args hfa => ?_)
          · rcases hv with rfl | ⟨rfl, rfl⟩ | ⟨f, args, rfl, hcl'⟩
            · simp [istep, hc, hwant, hop]
            · simp [istep, hc, hwant, hop]
            · simp [istep, hc, hwant, hop, hcl']
          · rcases hv with ⟨rfl, rfl⟩ | ⟨f, args, rfl, hcl'⟩
            · simp [istep, hc, hwant, hop]
            · simp [istep, hc, hwant, hop, hcl']
          · subst hfa
            cases hcl' : cl f args h with
            | none => simp [istep, hc, hwant, hop, hcl'] at hr
            | some _ => rfl
      · rw [if_neg hwant]
        have hst : istep P w0 cl ops o a h = some (.go (iput a o.dst undef) h) := by simp [istep, hc, hwant]
        rw [hst] at hr
        exact irun_sim hcl ops l _ _ e a' h' hr μ w _ Q (by rw [put_defers]; exact hd) hw (iput_sim hl _ hund) hf
    · have hst : istep P w0 cl ops o a h = none := by unfold istep; rw [if_pos (by simpa using hc)]
      rw [hst] at hr
      cases hr

end
end Go.Ideal
namespace Go.Ideal
open Go.RowKit
section
variable {P : Program} {w0 w : World} {h h' h2 : Heap} {μ μ' μ2 : Mp} {B : Nat}

/-! ### What an operation hangs on -/

theorem iop_congr {ρ ρ' : Operand → Value} (o : Oper) (hρ : ∀ x ∈ o.op.operands, ρ x = ρ' x) : iop P w0 h ρ o = iop P w0 h ρ' o := by
  obtain ⟨dst, op, ty, pos, after, guard⟩ := o
  have pairs : ∀ ps : Array (Nat × Operand), (∀ p ∈ ps.toList, ρ p.2 = ρ' p.2) → (ps.toList.map fun (i, x) => (i, ρ x)) = (ps.toList.map fun (i, x) => (i, ρ' x)) := fun ps hp =>
    List.map_congr_left fun p hm => by obtain ⟨i, x⟩ := p; simp only [hp (i, x) hm]
  cases op <;> simp only [Op.operands] at hρ <;> simp only [iop]
  case build t ps => rw [pairs ps fun p hp => hρ _ (by simp; exact ⟨p.1, by simpa using hp⟩)]
  case buildSlice t n ps => rw [pairs ps fun p hp => hρ _ (by simp; exact ⟨p.1, by simpa using hp⟩)]
  case makeFunc fn first captured =>
    cases fn <;> simp only
    rw [Array.map_congr_left (xs := first) fun x hx => hρ x (by simp [hx]), Array.map_congr_left (xs := captured) fun x hx => hρ x (by simp [hx])]
  case makeMap t r => cases r <;> simp_all
  case slice t x lo hi mx => cases lo <;> cases hi <;> cases mx <;> simp_all
  case call c =>
    have ha : c.args.toList.map ρ = c.args.toList.map ρ' := List.map_congr_left fun x hx => hρ x (by simp [Call.operands]; exact .inr (by simpa using hx))
    cases hc : c.callee with
    | value f => simp only [ha, hρ f (by simp [Call.operands, hc])]
    | builtin b => simp only [ha]
    | invoke r m => rfl
  all_goals (first | rfl | (simp_all; done))

/-- What does nothing to memory leaves the heap as it is. -/
theorem iop_quiet {ρ : Operand → Value} {o : Oper} {r : IRes} (hk : okind o ≠ .eff) (hr : iop P w0 h ρ o = some r) : ∃ v, r = .val v h := by
  obtain ⟨dst, op, ty, pos, after, guard⟩ := o
  unfold iop at hr
  split at hr <;> rename_i hop <;> (try simp only at hop) <;> (try subst hop)
  all_goals first
    | (exfalso; exact hk rfl)
    | (cases hr; exact ⟨_, rfl⟩)
    | (obtain ⟨v, hv, rfl⟩ := Option.map_eq_some_iff.1 hr; exact ⟨_, rfl⟩)
    | skip
  · split at hr
    · cases hr; exact ⟨_, rfl⟩
    · cases hr
  · split at hr
    · obtain ⟨v, hv, rfl⟩ := Option.map_eq_some_iff.1 hr; exact ⟨_, rfl⟩
    · cases hr
  · split at hr
    · cases hr; exact ⟨_, rfl⟩
    · cases hr; exact ⟨_, rfl⟩
    · cases hr
  · split at hr
    · cases hr
    · cases hr; exact ⟨_, rfl⟩
    · cases hr
  · split at hr
    · obtain ⟨v, hv, rfl⟩ := Option.map_eq_some_iff.1 hr; exact ⟨_, rfl⟩
    · cases hr
  · rename_i c
    split at hr
    · rename_i f hf
      exfalso
      apply hk
      simp [okind]
      split <;> simp_all
    · rename_i b hb
      have : b = .len ∨ b = .max ∨ b = .min := by
        obtain ⟨cal, args, ats⟩ := c
        simp only at hb
        subst hb
        cases b <;> first | (exact .inl rfl) | (exact .inr (.inl rfl)) | (exact .inr (.inr rfl)) | (exfalso; exact hk rfl)
      unfold ibuiltin at hr
      split at hr <;> first
        | (rcases this with h1 | h1 | h1 <;> cases h1; done)
        | (obtain ⟨v, hv, rfl⟩ := Option.map_eq_some_iff.1 hr; exact ⟨_, rfl⟩)
        | (cases hr; done)
    · cases hr
  · cases hr

/-- What only reckons comes to the same in whatever heap. -/
theorem iop_pure {ρ : Operand → Value} {o : Oper} {v : Value} (hk : okind o = .pure) (hr : iop P w0 h ρ o = some (.val v h)) : iop P w0 h2 ρ o = some (.val v h2) := by
  obtain ⟨dst, op, ty, pos, after, guard⟩ := o
  have hmap : ∀ (x : Option Value), x.map (fun y => IRes.val y h) = some (.val v h) → x.map (fun y => IRes.val y h2) = some (.val v h2) := fun x hx => by
    cases x <;> simp_all
  unfold iop at hr ⊢
  cases op <;> simp only at hr ⊢
  all_goals first
    | (exfalso; simp [okind] at hk; done)
    | (cases hr; rfl)
    | (exact hmap _ hr)
    | skip
  · split at hr
    · cases hr; rfl
    · cases hr
  · split at hr
    · cases hr; rfl
    · cases hr; rfl
    · cases hr
  · split at hr
    · cases hr
    · cases hr; rfl
    · cases hr
  · rename_i fn first captured
    cases fn <;> simp only at hr ⊢ <;> first | (cases hr; rfl) | cases hr
  · split at hr
    · exact hmap _ hr
    · cases hr
  · rename_i c
    obtain ⟨cal, args, ats⟩ := c
    cases cal with
    | value f => simp [okind] at hk
    | invoke r m => simp only at hr; cases hr
    | builtin b =>
      simp only at hr ⊢
      unfold ibuiltin at hr ⊢
      cases b
      case len => split at hr <;> first | (exact hmap _ hr) | contradiction
      case max => split at hr <;> first | (exact hmap _ hr) | contradiction
      case min => split at hr <;> first | (exact hmap _ hr) | contradiction
      all_goals cases hk

/-! ### The trace -/

def stA (tr : List Rec) (a' : Array Value) (k : Nat) : Array Value :=
  match tr[k]? with
  | some r => r.a
  | none => a'

def stH (tr : List Rec) (h' : Heap) (k : Nat) : Heap :=
  match tr[k]? with
  | some r => r.h
  | none => h'

theorem itrace_spec {cl : Cl} (ops : Array Oper) : ∀ (l : List Oper) (i : Nat) (a : Array Value) (h : Heap) (e : IExit) (a' : Array Value) (h' : Heap) (tr : List Rec),
    itrace P w0 cl ops i l a h = some (e, a', h', tr) →
    stA tr a' 0 = a ∧ stH tr h' 0 = h ∧ tr.length ≤ l.length ∧
    (∀ k o, k < tr.length → (k + 1 < tr.length ∨ e = .normal) → l[k]? = some o → istep P w0 cl ops o (stA tr a' k) (stH tr h' k) = some (.go (stA tr a' (k + 1)) (stH tr h' (k + 1)))) ∧
    (∀ k r, tr[k]? = some r → r.h' = stH tr h' (k + 1)) ∧
    ((e = .normal ∧ tr.length = l.length) ∨ ∃ v k o, e = .panic v ∧ tr.length = k + 1 ∧ l[k]? = some o ∧ istep P w0 cl ops o (stA tr a' k) (stH tr h' k) = some (.pan v h'))
  | [], i, a, h, e, a', h', tr, hr => by
    simp [itrace] at hr
    obtain ⟨rfl, rfl, rfl, rfl⟩ := hr
    simp [stA, stH]
  | o :: l, i, a, h, e, a', h', tr, hr => by
    simp only [itrace] at hr
    cases hst : istep P w0 cl ops o a h with
    | none => simp [hst] at hr
    | some st =>
      cases st with
      | pan v h1 =>
        simp [hst] at hr
        obtain ⟨rfl, rfl, rfl, rfl⟩ := hr
        refine ⟨rfl, rfl, by simp, fun k o' hk hk2 => by simp at hk2, fun k r hr => ?_, .inr ⟨v, 0, o, rfl, rfl, rfl, hst⟩⟩
        cases k with
        | zero => simp at hr; subst hr; simp [stH]
        | succ k => simp at hr
      | go a1 h1 =>
        simp only [hst] at hr
        cases hrec : itrace P w0 cl ops (i + 1) l a1 h1 with
        | none => simp [hrec] at hr
        | some res =>
          obtain ⟨e2, a2, h2, tr2⟩ := res
          simp [hrec] at hr
          obtain ⟨rfl, rfl, rfl, rfl⟩ := hr
          obtain ⟨i1, i2, i3, i4, i5, i6⟩ := itrace_spec ops l (i + 1) a1 h1 e2 a2 h2 tr2 hrec
          have sA : ∀ k, stA (⟨i, a, h, h1⟩ :: tr2) a2 (k + 1) = stA tr2 a2 k := fun k => by simp [stA]
          have sH : ∀ k, stH (⟨i, a, h, h1⟩ :: tr2) h2 (k + 1) = stH tr2 h2 k := fun k => by simp [stH]
          refine ⟨rfl, rfl, by simpa using i3, fun k o' hk hk2 ho => ?_, fun k r hr => ?_, ?_⟩
          · cases k with
            | zero =>
              simp at ho
              subst ho
              rw [sA, sH, i1, i2]
              exact hst
            | succ k =>
              rw [sA, sH, sA, sH]
              refine i4 k o' (by simpa using hk) ?_ (by simpa using ho)
              rcases hk2 with h | h
              · exact .inl (by simpa using h)
              · exact .inr h
          · cases k with
            | zero => simp at hr; subst hr; rw [sH, i2]
            | succ k => rw [sH]; exact i5 k r (by simpa using hr)
          · rcases i6 with ⟨h1, h2⟩ | ⟨v, k, o', h1, h2, h3, h4⟩
            · exact .inl ⟨h1, by simpa using h2⟩
            · exact .inr ⟨v, k + 1, o', h1, by simpa using h2, by simpa using h3, by rw [sA, sH]; exact h4⟩

/-! ### The edges -/

theorem ancs_aux : ∀ (l : List Oper) (acc : List (List Nat)),
    (l.foldl (fun acc o => acc ++ [(o.after.toList.filter fun e => Region.binds .any e).flatMap fun e => e.on :: acc.getD e.on []]) acc).length = acc.length + l.length ∧
    (∀ k, k < acc.length → (l.foldl (fun acc o => acc ++ [(o.after.toList.filter fun e => Region.binds .any e).flatMap fun e => e.on :: acc.getD e.on []]) acc)[k]? = acc[k]?)
  | [], acc => by simp
  | o :: l, acc => by
    obtain ⟨h1, h2⟩ := ancs_aux l (acc ++ [(o.after.toList.filter fun e => Region.binds .any e).flatMap fun e => e.on :: acc.getD e.on []])
    simp only [List.foldl_cons]
    refine ⟨by rw [h1]; simp; omega, fun k hk => ?_⟩
    rw [h2 k (by simp; omega), List.getElem?_append_left hk]

/-- A set of operations that holds, of each that it holds, all by whose edges that waits, holds all ancestors. -/
theorem ancs_down (f : Nat → Bool) : ∀ (l : List Oper) (acc : List (List Nat)) (ops : Array Oper),
    (∀ (j : Nat) (o : Oper), l[j]? = some o → ops[acc.length + j]? = some o) →
    (∀ (j : Nat) (o : Oper), ops[j]? = some o → f j = true → ∀ e ∈ o.after, Region.binds .any e = true → f e.on = true) →
    (∀ (j : Nat) (x : List Nat), acc[j]? = some x → f j = true → ∀ i ∈ x, f i = true) →
    ∀ (j : Nat) (x : List Nat), (l.foldl (fun acc o => acc ++ [(o.after.toList.filter fun e => Region.binds .any e).flatMap fun e => e.on :: acc.getD e.on []]) acc)[j]? = some x → f j = true → ∀ i ∈ x, f i = true
  | [], acc, ops, _, _, hacc, j, x, hx, hf, i, hi => hacc j x hx hf i hi
  | o :: l, acc, ops, hl, hops, hacc, j, x, hx, hf, i, hi => by
    simp only [List.foldl_cons] at hx
    refine ancs_down f l (acc ++ [(o.after.toList.filter fun e => Region.binds .any e).flatMap fun e => e.on :: acc.getD e.on []]) ops (fun j o' ho' => ?_) hops (fun j x hx hf i hi => ?_) j x hx hf i hi
    · have := hl (j + 1) o' (by simpa using ho')
      simpa [Nat.add_assoc, Nat.add_comm 1 j] using this
    · by_cases hj : j < acc.length
      · rw [List.getElem?_append_left hj] at hx
        exact hacc j x hx hf i hi
      · rw [List.getElem?_append_right (by omega)] at hx
        have hj0 : j - acc.length = 0 := by have := (List.getElem?_eq_some_iff.1 hx).1; simp at this; omega
        rw [hj0] at hx
        simp at hx
        subst hx
        have hjj : j = acc.length := by omega
        simp only [List.mem_flatMap, List.mem_filter] at hi
        obtain ⟨ed, ⟨he, hb⟩, hi⟩ := hi
        have hfo : f ed.on = true := hops j o (by rw [hjj]; simpa using hl 0 o (by simp)) hf ed (by simpa using he) hb
        simp only [List.mem_cons] at hi
        rcases hi with rfl | hi
        · exact hfo
        · cases hg : acc[ed.on]? with
          | none => simp [hg] at hi
          | some y => simp [hg] at hi; exact hacc ed.on y hg hfo i hi

theorem anc_in (ops : Array Oper) (f : Nat → Bool) (hops : ∀ (j : Nat) (o : Oper), ops[j]? = some o → f j = true → ∀ e ∈ o.after, Region.binds .any e = true → f e.on = true)
    {i j : Nat} (hij : ((ancs ops.toList).getD j []).contains i = true) (hf : f j = true) : f i = true := by
  rw [List.getD_eq_getElem?_getD] at hij
  cases hx : (ancs ops.toList)[j]? with
  | none => simp [hx] at hij
  | some x =>
    simp only [hx, Option.getD_some, List.contains_iff_mem] at hij
    exact ancs_down f ops.toList [] ops (fun j o ho => by simpa using ho) hops (fun j x hx => by simp at hx) j x hx hf i hij

end
end Go.Ideal
namespace Go.Ideal
open Go.RowKit
section
variable {P : Program} {w0 w : World} {h h' h2 : Heap} {μ μ' μ2 : Mp} {B : Nat}

/-! ### One step, spelled out -/

def DoesV (cl : Cl) (h : Heap) (r : IRes) (v : Value) (h' : Heap) : Prop :=
  r = .val v h' ∨ (r = .skip h' ∧ v = undef) ∨ ∃ f args, r = .call f args ∧ cl f args h = some (.ret v, h')

def DoesP (cl : Cl) (h : Heap) (r : IRes) (v : Value) (h' : Heap) : Prop :=
  (r = .panic v ∧ h' = h) ∨ ∃ f args, r = .call f args ∧ cl f args h = some (.pan v, h')

theorem DoesV.inj {cl : Cl} {r : IRes} {v v2 : Value} {h3 h4 : Heap} (h1 : DoesV cl h r v h3) (h2 : DoesV cl h r v2 h4) : v = v2 ∧ h3 = h4 := by
  rcases h1 with rfl | ⟨rfl, rfl⟩ | ⟨f, args, rfl, h1⟩ <;> rcases h2 with h2 | ⟨h2, rfl⟩ | ⟨f2, args2, h2, h3⟩ <;> cases h2
  · exact ⟨rfl, rfl⟩
  · exact ⟨rfl, rfl⟩
  · rw [h1] at h3; cases h3; exact ⟨rfl, rfl⟩

theorem DoesV.not {cl : Cl} {r : IRes} {v v2 : Value} {h3 h4 : Heap} (h1 : DoesV cl h r v h3) (h2 : DoesP cl h r v2 h4) : False := by
  rcases h1 with rfl | ⟨rfl, rfl⟩ | ⟨f, args, rfl, h1⟩ <;> rcases h2 with ⟨h2, _⟩ | ⟨f2, args2, h2, h3⟩ <;> cases h2
  rw [h1] at h3; cases h3

theorem DoesP.inj {cl : Cl} {r : IRes} {v v2 : Value} {h3 h4 : Heap} (h1 : DoesP cl h r v h3) (h2 : DoesP cl h r v2 h4) : v = v2 ∧ h3 = h4 := by
  rcases h1 with ⟨rfl, rfl⟩ | ⟨f, args, rfl, h1⟩ <;> rcases h2 with ⟨h2, rfl⟩ | ⟨f2, args2, h2, h3⟩ <;> cases h2
  · exact ⟨rfl, rfl⟩
  · rw [h1] at h3; cases h3; exact ⟨rfl, rfl⟩

theorem istep_spec {cl : Cl} {ops : Array Oper} {o : Oper} {a : Array Value} {st : IStep} (hs : istep P w0 cl ops o a h = some st) :
    o.op.operands.toList.all constOk = true ∧
    ((Region.wanted o (yielded ops a) = false ∧ st = .go (iput a o.dst undef) h) ∨
     (Region.wanted o (yielded ops a) = true ∧ ∃ r, iop P w0 h (ev a) o = some r ∧
      ((∃ v h3, st = .go (iput a o.dst v) h3 ∧ DoesV cl h r v h3) ∨ (∃ v h3, st = .pan v h3 ∧ DoesP cl h r v h3)))) := by
  unfold istep at hs
  by_cases hc : o.op.operands.toList.all constOk = true
  · refine ⟨hc, ?_⟩
    rw [if_neg (by simpa using hc)] at hs
    by_cases hw : Region.wanted o (yielded ops a) = true
    · refine .inr ⟨hw, ?_⟩
      rw [if_pos hw] at hs
      cases hop : iop P w0 h (ev a) o with
      | none => simp [hop] at hs
      | some r =>
        refine ⟨r, rfl, ?_⟩
        cases r with
        | val v h3 => simp [hop] at hs; exact .inl ⟨v, h3, hs.symm, .inl rfl⟩
        | skip h3 => simp [hop] at hs; exact .inl ⟨undef, h3, hs.symm, .inr (.inl ⟨rfl, rfl⟩)⟩
        | panic v => simp [hop] at hs; exact .inr ⟨v, h, hs.symm, .inl ⟨rfl, rfl⟩⟩
        | call f args =>
          cases hcl : cl f args h with
          | none => simp [hop, hcl] at hs
          | some res =>
            obtain ⟨ir, h3⟩ := res
            cases ir with
            | ret v => simp [hop, hcl] at hs; exact .inl ⟨v, h3, hs.symm, .inr (.inr ⟨f, args, rfl, hcl⟩)⟩
            | pan v => simp [hop, hcl] at hs; exact .inr ⟨v, h3, hs.symm, .inr ⟨f, args, rfl, hcl⟩⟩
    · rw [if_neg hw] at hs
      cases hs
      exact .inl ⟨by simpa using hw, rfl⟩
  · rw [if_pos (by simpa using hc)] at hs
    cases hs

theorem oper_sim2 {cl : Cl} (hcl : ClSim P w0 cl) (hw : RelW P w0 h μ w) {ρ : Operand → Value} {at' : Act} {o : Oper}
    (hρ : ∀ x ∈ o.op.operands, RelV P w0.heap.size h μ (ρ x) (at'.eval x)) {r : IRes} (hr : iop P w0 h ρ o = some r) {next : Act → World → Prop} {Q : Exit → Act → World → Prop}
    (hval : ∀ v h', DoesV cl h r v h' → ∀ u w' μ', RelW P w0 h' μ' w' → Ext h μ h' μ' → RelV P w0.heap.size h' μ' v u → next (at'.put o.dst u) w')
    (hpan : ∀ v h', DoesP cl h r v h' → ∀ u w' μ', RelW P w0 h' μ' w' → Ext h μ h' μ' → RelV P w0.heap.size h' μ' v u → Q (.panic [{ v := u, recovered := false }]) at' w')
    (hdone : ∀ f args, r = .call f args → (cl f args h).isSome) :
    o.wp P at' w next Q := by
  have hs := iop_sim hw (ρ := ρ) (ρ' := at'.eval) (o := o) hρ hr
  unfold Oper.wp
  cases r with
  | val v h' =>
    obtain ⟨u, w', μ', hrun, h1, h3, h4⟩ := hs
    rw [hrun]
    exact hval v h' (.inl rfl) u w' μ' h1 h3 h4
  | skip h' =>
    obtain ⟨w', μ', hrun, h1, h3⟩ := hs
    rw [hrun]
    exact hval undef h' (.inr (.inl ⟨rfl, rfl⟩)) undef w' μ' h1 h3 (RelL.tuple (by simpa using RelL.nil))
  | call f args =>
    obtain ⟨args', hrun, h1⟩ := hs
    rw [hrun]
    cases hcl' : cl f args h with
    | none => have := hdone f args rfl; rw [hcl'] at this; simp at this
    | some res =>
      obtain ⟨ir, h'⟩ := res
      refine (hcl f args h ir h' hcl' μ w args' hw h1).mono fun e w' ⟨μ', g1, g2, g3⟩ => ?_
      cases ir with
      | ret v =>
        cases e with
        | returned u => exact hval v h' (.inr (.inr ⟨f, args, rfl, hcl'⟩)) u w' μ' g1 g2 g3
        | panicked c => exact g3.elim
        | outgrown => exact g3.elim
      | pan v =>
        cases e with
        | returned u => exact g3.elim
        | panicked c => obtain ⟨u, rfl, hv⟩ := g3; exact hpan v h' (.inr ⟨f, args, rfl, hcl'⟩) u w' μ' g1 g2 hv
        | outgrown => exact g3.elim
  | panic v =>
    obtain ⟨u, hrun, h1⟩ := hs
    rw [hrun]
    exact hpan v h (.inl ⟨rfl, rfl⟩) u w μ hw (Ext.refl _ _) h1

/-! ### What a set of done operations has written -/

def dstAt (ops : Array Oper) (k : Nat) : Option Tmp := (ops[k]?).bind (·.dst)

def GV (A : Nat → Array Value) (ops : Array Oper) (f : Nat → Bool) : Nat → Nat → Value
  | 0, t => (A 0).getD t undef
  | k + 1, t => if f k = true ∧ dstAt ops k = some t then (A (k + 1)).getD t undef else GV A ops f k t

variable {A : Nat → Array Value} {ops : Array Oper}

theorem GV_skip (f : Nat → Bool) (t i : Nat) : ∀ k, (∀ j, i ≤ j → j < i + k → ¬ (f j = true ∧ dstAt ops j = some t)) → GV A ops f (i + k) t = GV A ops f i t
  | 0, _ => rfl
  | k + 1, hn => by
    rw [← Nat.add_assoc]
    rw [GV, if_neg (hn (i + k) (by omega) (by omega))]
    exact GV_skip f t i k fun j h1 h2 => hn j h1 (by omega)

theorem GV_all (f : Nat → Bool) (t : Nat) : ∀ k, (∀ j, j < k → dstAt ops j = some t → f j = true) → (∀ j, j < k → dstAt ops j ≠ some t → (A (j + 1)).getD t undef = (A j).getD t undef) → GV A ops f k t = (A k).getD t undef
  | 0, _, _ => rfl
  | k + 1, h1, h2 => by
    rw [GV]
    by_cases hd : dstAt ops k = some t
    · rw [if_pos ⟨h1 k (by omega) hd, hd⟩]
    · rw [if_neg (by simp [hd]), GV_all f t k (fun j hj => h1 j (by omega)) (fun j hj => h2 j (by omega)), h2 k (by omega) hd]

theorem GV_congr (f f' : Nat → Bool) (t : Nat) : ∀ k, (∀ j, j < k → dstAt ops j = some t → f j = f' j) → GV A ops f k t = GV A ops f' k t
  | 0, _ => rfl
  | k + 1, h1 => by
    rw [GV, GV, GV_congr f f' t k fun j hj => h1 j (by omega)]
    by_cases hd : dstAt ops k = some t
    · rw [h1 k (by omega) hd]
    · simp [hd]

/-! ### Orders -/

theorem backOk_spec (hb : backOk ops.toList = true) (j : Nat) (o : Oper) (ho : ops[j]? = some o) (e : Edge) (he : e ∈ o.after) (hbind : Region.binds .any e = true) : e.on < j := by
  unfold backOk at hb
  have hlt : j < ops.toList.length := by simpa using (Array.getElem?_eq_some_iff.1 ho).1
  have := List.all_eq_true.1 hb j (List.mem_range.2 hlt)
  have ho' : ops.toList[j]? = some o := by simpa using ho
  rw [ho'] at this
  have := List.all_eq_true.1 this e (by simpa using he)
  simpa [hbind] using this

theorem ordered_down (hb : backOk ops.toList = true) (f : Nat → Bool) (hops : ∀ (j : Nat) (o : Oper), ops[j]? = some o → f j = true → ∀ e ∈ o.after, Region.binds .any e = true → f e.on = true)
    {i j : Nat} (hij : i < j) (ho : ordered (ancs ops.toList) i j = true) (hf : f j = true) : f i = true := by
  unfold ordered at ho
  rw [Bool.or_eq_true] at ho
  rcases ho with ho | ho
  · exact anc_in ops f hops ho hf
  · have := anc_in ops (fun x => decide (x ≤ i)) (fun k o hk hle e he hbd => by
      have := backOk_spec hb k o hk e he hbd
      simp at hle ⊢; omega) ho (by simp)
    simp at this
    omega

theorem drawOk_spec (hd : drawOk ops.toList = true) {i j : Nat} {x y : Oper} (hij : i < j) (hx : ops[i]? = some x) (hy : ops[j]? = some y) :
    ordered (ancs ops.toList) i j = true ∨ (x.apart ops y = true ∧ ¬ (okind x = .eff ∧ okind y = .eff)) := by
  unfold drawOk at hd
  have hlt : j < ops.toList.length := by simpa using (Array.getElem?_eq_some_iff.1 hy).1
  have h1 := List.all_eq_true.1 hd j (List.mem_range.2 hlt)
  have h2 := List.all_eq_true.1 h1 i (List.mem_range.2 hij)
  have hx' : ops.toList[i]? = some x := by simpa using hx
  have hy' : ops.toList[j]? = some y := by simpa using hy
  simp only [hx', hy', Bool.or_eq_true, Bool.and_eq_true] at h2
  rcases h2 with h2 | h2
  · exact .inl h2
  · exact .inr ⟨by simpa using h2.1, fun ⟨h3, h4⟩ => by simp [h3, h4] at h2⟩

theorem iput_getD_ne (a : Array Value) (d : Option Tmp) (v : Value) (t : Nat) (hd : d ≠ some t) : (iput a d v).getD t undef = a.getD t undef := by
  cases d with
  | none => rfl
  | some s =>
    have : s ≠ t := fun e => hd (by rw [e])
    simp [iput, Array.getElem?_setIfInBounds_ne this]

theorem iput_getD_eq (a : Array Value) (v : Value) (t : Nat) (ht : t < a.size) : (iput a (some t) v).getD t undef = v := by
  simp [iput, ht]

theorem iput_size (a : Array Value) (d : Option Tmp) (v : Value) : (iput a d v).size = a.size := by
  cases d <;> simp [iput]

theorem put_size (at' : Act) (d : Option Tmp) (v : Value) : (at'.put d v).tmps.size = at'.tmps.size := by
  cases d <;> simp [Act.put]

theorem put_getD_ne (at' : Act) (d : Option Tmp) (v : Value) (t : Nat) (hd : d ≠ some t) : (at'.put d v).tmps.getD t undef = at'.tmps.getD t undef := by
  cases d with
  | none => rfl
  | some s =>
    have : s ≠ t := fun e => hd (by rw [e])
    simp [Act.put, Array.getElem?_setIfInBounds_ne this]

theorem put_getD_eq (at' : Act) (v : Value) (t : Nat) (ht : t < at'.tmps.size) : (at'.put (some t) v).tmps.getD t undef = v := by
  simp [Act.put, ht]

theorem wanted_sim {a b : Array Value} (hs : a.size = b.size) {o : Oper} (hg : ∀ t ∈ o.looksAt ops, RelV P B h μ (a.getD t undef) (b.getD t undef)) :
    Region.wanted o (yielded ops b) = Region.wanted o (yielded ops a) := by
  unfold Region.wanted
  cases hgd : o.guard with
  | none => rfl
  | some gw =>
    obtain ⟨g, want⟩ := gw
    have hy : yielded ops b g = yielded ops a g := by
      unfold yielded
      cases ht : (ops[g]?).bind (·.dst) with
      | none => rfl
      | some t =>
        have hr := hg t (by simp [Oper.looksAt, hgd, ht])
        simp only [Option.bind_some]
        by_cases hta : t < a.size
        · have htb : t < b.size := hs ▸ hta
          simp only [Array.getD, hta, htb, dif_pos] at hr
          rw [Array.getElem?_eq_getElem hta, Array.getElem?_eq_getElem htb]
          simp only [Array.getInternal_eq_getElem] at hr
          generalize a[t] = x at hr
          generalize b[t] = y at hr
          have := fun c => hr.bool_iff c
          split
          · rename_i c hc
            cases hc
            rw [(this c).2 rfl]
          · rename_i hne
            split
            · rename_i c hc
              cases hc
              exact absurd (by rw [(this c).1 rfl]) (hne c)
            · rfl
        · have htb : ¬ t < b.size := hs ▸ hta
          rw [Array.getElem?_eq_none (Nat.le_of_not_lt hta), Array.getElem?_eq_none (Nat.le_of_not_lt htb)]
    simp only [hy]

end
end Go.Ideal
namespace Go.Ideal
open Go.RowKit
section
variable {P : Program} {w0 w : World} {h h' h2 : Heap} {μ μ' μ2 : Mp} {B : Nat}

/-- What is known of the run in the order of the text, step by step. -/
structure Run (P : Program) (w0 : World) (cl : Cl) (ops : Array Oper) (A : Nat → Array Value) (H : Nat → Heap) (m : Nat) : Prop where
  draw : drawOk ops.toList = true
  back : backOk ops.toList = true
  step : ∀ (k : Nat) (o : Oper), k < m → ops[k]? = some o → istep P w0 cl ops o (A k) (H k) = some (.go (A (k + 1)) (H (k + 1)))
  read1 : ∀ (i j : Nat) (x y : Oper), i < j → j < m → ops[i]? = some x → ops[j]? = some y → okind x = .read → okind y = .eff → ordered (ancs ops.toList) i j = false →
    Region.wanted x (yielded ops (A i)) = false ∨ reval P w0 x (A i) (H i) (H (j + 1)) = true
  read2 : ∀ (i j : Nat) (x y : Oper), i < j → j < m → ops[i]? = some x → ops[j]? = some y → okind x = .eff → okind y = .read → ordered (ancs ops.toList) i j = false →
    Region.wanted y (yielded ops (A j)) = false ∨ reval P w0 y (A j) (H j) (H i) = true
  size : m ≤ ops.size

variable {cl : Cl} {ops : Array Oper} {A : Nat → Array Value} {H : Nat → Heap} {m : Nat}

theorem Run.stepA (R : Run P w0 cl ops A H m) {k : Nat} (hk : k < m) : ∃ o v, ops[k]? = some o ∧ A (k + 1) = iput (A k) o.dst v := by
  have hlt : k < ops.size := Nat.lt_of_lt_of_le hk R.size
  refine ⟨ops[k], ?_⟩
  have ho : ops[k]? = some ops[k] := by simp [hlt]
  obtain ⟨_, h1 | ⟨_, r, _, ⟨v, h3, h4, _⟩ | ⟨v, h3, h4, _⟩⟩⟩ := istep_spec (R.step k _ hk ho)
  · obtain ⟨_, h1⟩ := h1; injection h1 with h1 _; exact ⟨undef, ho, h1⟩
  · injection h4 with h4 _; exact ⟨v, ho, h4⟩
  · cases h4

theorem Run.sizeA (R : Run P w0 cl ops A H m) : ∀ k, k ≤ m → (A k).size = (A 0).size
  | 0, _ => rfl
  | k + 1, hk => by
    obtain ⟨o, v, _, h1⟩ := R.stepA (k := k) (by omega)
    rw [h1, iput_size, R.sizeA k (by omega)]

theorem Run.keep (R : Run P w0 cl ops A H m) {k t : Nat} (hk : k < m) (hd : dstAt ops k ≠ some t) : (A (k + 1)).getD t undef = (A k).getD t undef := by
  obtain ⟨o, v, ho, h1⟩ := R.stepA hk
  rw [h1, iput_getD_ne]
  simpa [dstAt, ho] using hd

theorem Run.quiet (R : Run P w0 cl ops A H m) {k : Nat} {o : Oper} (hk : k < m) (ho : ops[k]? = some o) (hq : okind o ≠ .eff) : H (k + 1) = H k := by
  obtain ⟨_, h1 | ⟨_, r, hop, ⟨v, h3, h4, h5⟩ | ⟨v, h3, h4, _⟩⟩⟩ := istep_spec (R.step k _ hk ho)
  · obtain ⟨_, h1⟩ := h1; injection h1
  · obtain ⟨v', rfl⟩ := iop_quiet hq hop
    injection h4 with _ h4
    rw [h4]
    rcases h5 with h5 | ⟨h5, _⟩ | ⟨f, args, h5, _⟩ <;> cases h5
    rfl
  · cases h4

/-- No effect from one place to another: the heap is the same. -/
theorem Run.still (R : Run P w0 cl ops A H m) (i : Nat) : ∀ k, i + k ≤ m → (∀ j o, i ≤ j → j < i + k → ops[j]? = some o → okind o ≠ .eff) → H (i + k) = H i
  | 0, _, _ => rfl
  | k + 1, hm, hn => by
    rw [← Nat.add_assoc]
    have hlt : i + k < ops.size := by have := R.size; omega
    rw [R.quiet (k := i + k) (o := ops[i + k]) (by omega) (by simp [hlt]) (hn (i + k) _ (by omega) (by omega) (by simp [hlt]))]
    exact R.still i k (by omega) fun j o h1 h2 => hn j o h1 (by omega)

theorem reval_spec {o : Oper} {a : Array Value} (hr : reval P w0 o a h h2 = true) : ∃ v h3 h4, iop P w0 h (ev a) o = some (.val v h3) ∧ iop P w0 h2 (ev a) o = some (.val v h4) := by
  unfold reval at hr
  split at hr
  · rename_i v h3 u h4 h5 h6
    exact ⟨v, h3, h4, h5, by rw [h6, beqV_eq v u hr]⟩
  · cases hr

/-- Where a run in some order stands: what is listed, and how far the effects have come. -/
structure Inv (P : Program) (w0 : World) (ops : Array Oper) (A : Nat → Array Value) (H : Nat → Heap) (m : Nat) (h : Heap) (μ0 : Mp) (listed : Array Bool) (at' : Act) (w : World) (μ : Mp) (k : Nat) : Prop where
  size : listed.size = ops.size
  down : ∀ (j : Nat) (o : Oper), ops[j]? = some o → listed.getD j false = true → ∀ e ∈ o.after, Region.binds .any e = true → listed.getD e.on false = true
  le : ∀ j, listed.getD j false = true → j < m
  defers : at'.defers = []
  tsize : at'.tmps.size = (A 0).size
  tmps : ∀ t, t < (A 0).size → RelV P w0.heap.size (H k) μ (GV A ops (fun j => listed.getD j false) m t) (at'.tmps.getD t undef)
  rel : RelW P w0 (H k) μ w
  ext : Ext h μ0 (H k) μ
  kle : k ≤ m
  eff : ∀ (j : Nat) (o : Oper), j < m → ops[j]? = some o → okind o = .eff → (listed.getD j false = true ↔ j < k)

theorem getD_set (listed : Array Bool) (i j : Nat) (hi : i < listed.size) : (listed.setIfInBounds i true).getD j false = (listed.getD j false || decide (j = i)) := by
  by_cases h : i = j
  · subst h; simp [hi]
  · rw [getD_set_ne false h]; simp [Ne.symm h]

theorem Inv.with_ready {μ0 : Mp} {listed : Array Bool} {at' : Act} {k : Nat} (I : Inv P w0 ops A H m h μ0 listed at' w μ k) {i : Nat} {o : Oper} (ho : ops[i]? = some o)
    (hall : ∀ e ∈ o.after, Region.binds .any e = true → listed.getD e.on false = true) :
    ∀ (j : Nat) (x : Oper), ops[j]? = some x → (listed.getD j false || decide (j = i)) = true → ∀ e ∈ x.after, Region.binds .any e = true → (listed.getD e.on false || decide (e.on = i)) = true := by
  intro j x hx hf e he hb
  rw [Bool.or_eq_true] at hf ⊢
  rcases hf with hf | hf
  · exact .inl (I.down j x hx hf e he hb)
  · simp at hf
    subst hf
    rw [ho] at hx; cases hx
    exact .inl (hall e he hb)

/-- What waits and is ready looks at what the order of the text looks at. -/
theorem Inv.looks (R : Run P w0 cl ops A H m) {μ0 : Mp} {listed : Array Bool} {at' : Act} {k : Nat} (I : Inv P w0 ops A H m h μ0 listed at' w μ k) {i : Nat} {o : Oper} (him : i ≤ m) (ho : ops[i]? = some o)
    (hun : listed.getD i false = false) (hall : ∀ e ∈ o.after, Region.binds .any e = true → listed.getD e.on false = true) (t : Nat) (ht : t ∈ o.looksAt ops) :
    RelV P w0.heap.size (H k) μ ((A i).getD t undef) (at'.tmps.getD t undef) := by
  by_cases hts : t < (A 0).size
  · have h1 : GV A ops (fun j => listed.getD j false) m t = GV A ops (fun j => listed.getD j false) i t := by
      obtain ⟨d, rfl⟩ := Nat.exists_eq_add_of_le him
      refine GV_skip _ t i d fun j h1 h2 ⟨h3, h4⟩ => ?_
      by_cases hji : j = i
      · subst hji; rw [h3] at hun; cases hun
      · obtain ⟨y, hy, hyd⟩ := Option.bind_eq_some_iff.1 h4
        rcases drawOk_spec R.draw (i := i) (j := j) (by omega) ho hy with h5 | ⟨h5, _⟩
        · have := ordered_down R.back (fun j => listed.getD j false) I.down (i := i) (j := j) (by omega) h5 h3
          exact absurd (show listed.getD i false = true from this) (by rw [hun]; simp)
        · exact (Oper.apart_spec h5).2.2 t hyd ht
    have h2 : GV A ops (fun j => listed.getD j false) i t = (A i).getD t undef := by
      refine GV_all _ t i (fun j hj hd => ?_) (fun j hj hd => R.keep (by omega) hd)
      obtain ⟨x, hx, hxd⟩ := Option.bind_eq_some_iff.1 hd
      rcases drawOk_spec R.draw hj hx ho with h5 | ⟨h5, _⟩
      · have := ordered_down R.back (fun j => listed.getD j false || decide (j = i)) (I.with_ready ho hall) hj h5 (by simp)
        simp only [Bool.or_eq_true, decide_eq_true_eq] at this
        rcases this with h6 | h6
        · exact h6
        · omega
      · exact absurd ht ((Oper.apart_spec h5).1 t hxd)
    rw [← h2, ← h1]
    exact I.tmps t hts
  · have h1 : (A i).getD t undef = undef := by simp [Array.getD, show ¬ t < (A i).size by rw [R.sizeA i him]; exact hts]
    have h2 : at'.tmps.getD t undef = undef := by simp [Array.getD, show ¬ t < at'.tmps.size by rw [I.tsize]; exact hts]
    rw [h1, h2]
    exact RelL.tuple (by simpa using RelL.nil)

/-- An operation is done: where the run stands then. -/
theorem Inv.next (R : Run P w0 cl ops A H m) {μ0 : Mp} {listed : Array Bool} {at' : Act} {k k' : Nat} (I : Inv P w0 ops A H m h μ0 listed at' w μ k) {i : Nat} {o : Oper} (him : i < m) (ho : ops[i]? = some o)
    (hun : listed.getD i false = false) (hall : ∀ e ∈ o.after, Region.binds .any e = true → listed.getD e.on false = true)
    {v u : Value} {w' : World} {μ' : Mp} (hA : A (i + 1) = iput (A i) o.dst v) (hw : RelW P w0 (H k') μ' w') (hext : Ext (H k) μ (H k') μ') (hv : RelV P w0.heap.size (H k') μ' v u)
    (hk : (okind o = .eff ∧ k' = i + 1 ∧ k ≤ i) ∨ (okind o ≠ .eff ∧ k' = k)) :
    Inv P w0 ops A H m h μ0 (listed.setIfInBounds i true) (at'.put o.dst u) w' μ' k' := by
  have hilt : i < listed.size := by rw [I.size]; exact (Array.getElem?_eq_some_iff.1 ho).1
  have hset := fun j => getD_set listed i j hilt
  refine ⟨by simpa using I.size, fun j x hx hf e he hb => ?_, fun j hf => ?_, by rw [put_defers]; exact I.defers, by rw [put_size]; exact I.tsize, fun t ht => ?_, hw, I.ext.trans hext, ?_, fun j x hj hx hk2 => ?_⟩
  · rw [hset] at hf ⊢
    exact I.with_ready ho hall j x hx hf e he hb
  · rw [hset, Bool.or_eq_true] at hf
    rcases hf with hf | hf
    · exact I.le j hf
    · simp at hf; omega
  · have hfe : (fun j => (listed.setIfInBounds i true).getD j false) = fun j => listed.getD j false || decide (j = i) := funext hset
    rw [hfe]
    by_cases hd : o.dst = some t
    · have h1 : GV A ops (fun j => listed.getD j false || decide (j = i)) m t = v := by
        obtain ⟨d, hmd⟩ := Nat.exists_eq_add_of_le (show i + 1 ≤ m from him)
        have hsk : GV A ops (fun j => listed.getD j false || decide (j = i)) (i + 1 + d) t = GV A ops (fun j => listed.getD j false || decide (j = i)) (i + 1) t := by
          refine GV_skip _ t (i + 1) d fun j h1 h2 ⟨h3, h4⟩ => ?_
          simp only [Bool.or_eq_true, decide_eq_true_eq] at h3
          have h3 := h3.resolve_right (by omega)
          obtain ⟨y, hy, hyd⟩ := Option.bind_eq_some_iff.1 h4
          rcases drawOk_spec R.draw (i := i) (j := j) (by omega) ho hy with h5 | ⟨h5, _⟩
          · have := ordered_down R.back (fun j => listed.getD j false) I.down (i := i) (j := j) (by omega) h5 h3
            exact absurd (show listed.getD i false = true from this) (by rw [hun]; simp)
          · exact (Oper.apart_spec h5).2.1 t hd hyd
        rw [hmd, hsk, GV, if_pos ⟨by simp, by simp [dstAt, ho, hd]⟩, hA, hd]
        exact iput_getD_eq _ _ _ (by rw [R.sizeA i (by omega)]; exact ht)
      rw [h1, hd, put_getD_eq _ _ _ (by rw [I.tsize]; exact ht)]
      exact hv
    · rw [put_getD_ne _ _ _ _ hd, GV_congr _ (fun j => listed.getD j false) t m fun j hj hdj => by
        by_cases hji : j = i
        · subst hji; exfalso; apply hd; simpa [dstAt, ho] using hdj
        · simp [hji]]
      exact (I.tmps t ht).mono hext
  · rcases hk with ⟨_, h1, _⟩ | ⟨_, h1⟩
    · rw [h1]; exact him
    · rw [h1]; exact I.kle
  · rw [hset, Bool.or_eq_true, decide_eq_true_eq]
    have hI := I.eff j x hj hx hk2
    rcases hk with ⟨ho2, h1, h3⟩ | ⟨ho2, h1⟩
    · constructor
      · rintro (hf | hf)
        · have := hI.1 hf; omega
        · omega
      · intro hlt
        by_cases hji : j = i
        · exact .inr hji
        · left
          rcases drawOk_spec R.draw (i := j) (j := i) (by omega) hx ho with h5 | ⟨_, h5⟩
          · have := ordered_down R.back (fun j => listed.getD j false || decide (j = i)) (I.with_ready ho hall) (i := j) (j := i) (by omega) h5 (by simp)
            simp only [Bool.or_eq_true, decide_eq_true_eq] at this
            exact this.resolve_right hji
          · exact absurd ⟨hk2, ho2⟩ h5
    · rw [h1]
      constructor
      · rintro (hf | hf)
        · exact hI.1 hf
        · subst hf; rw [ho] at hx; cases hx; exact absurd hk2 ho2
      · exact fun hlt => .inl (hI.2 hlt)

/-- An effect that is ready finds the heap of the order of the text. -/
theorem Inv.at_eff (R : Run P w0 cl ops A H m) {μ0 : Mp} {listed : Array Bool} {at' : Act} {k : Nat} (I : Inv P w0 ops A H m h μ0 listed at' w μ k) {i : Nat} {o : Oper} (him : i ≤ m) (ho : ops[i]? = some o)
    (hun : listed.getD i false = false) (hall : ∀ e ∈ o.after, Region.binds .any e = true → listed.getD e.on false = true) (he : okind o = .eff) : k ≤ i ∧ H k = H i := by
  have hki : k ≤ i := by
    by_cases hi : i < m
    · have := (I.eff i o hi ho he)
      rcases Nat.lt_or_ge i k with h1 | h1
      · rw [this.2 h1] at hun; cases hun
      · exact h1
    · have := I.kle; omega
  refine ⟨hki, ?_⟩
  obtain ⟨d, rfl⟩ := Nat.exists_eq_add_of_le hki
  refine (R.still k d him fun j x h1 h2 hx hk => ?_).symm
  have hj : listed.getD j false = true := by
    rcases drawOk_spec R.draw (i := j) (j := k + d) h2 hx ho with h5 | ⟨_, h5⟩
    · have := ordered_down R.back (fun j => listed.getD j false || decide (j = k + d)) (I.with_ready ho hall) h2 h5 (by simp)
      simp only [Bool.or_eq_true, decide_eq_true_eq] at this
      exact this.resolve_right (by omega)
    · exact absurd ⟨hk, he⟩ h5
  have := (I.eff j x (by omega) hx hk).1 hj
  omega

/-- The first effect at or behind a place, or none. -/
theorem first_eff (ops : Array Oper) (i : Nat) : ∀ d, (∀ j o, i ≤ j → j < i + d → ops[j]? = some o → okind o ≠ .eff) ∨
    ∃ j o, i ≤ j ∧ j < i + d ∧ ops[j]? = some o ∧ okind o = .eff ∧ ∀ j' o', i ≤ j' → j' < j → ops[j']? = some o' → okind o' ≠ .eff
  | 0 => .inl fun j o h1 h2 => by omega
  | d + 1 => by
    rcases first_eff ops i d with h | ⟨j, o, h1, h2, h3⟩
    · by_cases hx : ∃ o, ops[i + d]? = some o ∧ okind o = .eff
      · obtain ⟨o, ho, hk⟩ := hx
        exact .inr ⟨i + d, o, by omega, by omega, ho, hk, fun j' o' h1 h2 => h j' o' h1 h2⟩
      · refine .inl fun j o h1 h2 ho hk => ?_
        by_cases hj : j = i + d
        · subst hj; exact hx ⟨o, ho, hk⟩
        · exact h j o h1 (by omega) ho hk
    · exact .inr ⟨j, o, h1, by omega, h3⟩

theorem last_eff (ops : Array Oper) (i : Nat) : ∀ d, (∀ j o, i ≤ j → j < i + d → ops[j]? = some o → okind o ≠ .eff) ∨
    ∃ j o, i ≤ j ∧ j < i + d ∧ ops[j]? = some o ∧ okind o = .eff ∧ ∀ j' o', j < j' → j' < i + d → ops[j']? = some o' → okind o' ≠ .eff
  | 0 => .inl fun j o h1 h2 => by omega
  | d + 1 => by
    by_cases hx : ∃ o, ops[i + d]? = some o ∧ okind o = .eff
    · obtain ⟨o, ho, hk⟩ := hx
      exact .inr ⟨i + d, o, by omega, by omega, ho, hk, fun j' o' h1 h2 => by omega⟩
    · rcases last_eff ops i d with h | ⟨j, o, h1, h2, h3, h4, h5⟩
      · refine .inl fun j o h1 h2 ho hk => ?_
        by_cases hj : j = i + d
        · subst hj; exact hx ⟨o, ho, hk⟩
        · exact h j o h1 (by omega) ho hk
      · refine .inr ⟨j, o, h1, by omega, h3, h4, fun j' o' h6 h7 ho hk => ?_⟩
        by_cases hj : j' = i + d
        · subst hj; exact hx ⟨o', ho, hk⟩
        · exact h5 j' o' h6 (by omega) ho hk

/-- What does nothing to memory tells, when it is ready, what it tells in the order of the text. -/
theorem Inv.at_quiet (R : Run P w0 cl ops A H m) {μ0 : Mp} {listed : Array Bool} {at' : Act} {k : Nat} (I : Inv P w0 ops A H m h μ0 listed at' w μ k) {i : Nat} {o : Oper} (him : i < m) (ho : ops[i]? = some o)
    (hun : listed.getD i false = false) (hall : ∀ e ∈ o.after, Region.binds .any e = true → listed.getD e.on false = true) (he : okind o ≠ .eff) {v : Value} (hwant : Region.wanted o (yielded ops (A i)) = true)
    (hop : iop P w0 (H i) (ev (A i)) o = some (.val v (H i))) : iop P w0 (H k) (ev (A i)) o = some (.val v (H k)) := by
  have fin : ∀ hk : Heap, (∃ v2 h3 h4, iop P w0 (H i) (ev (A i)) o = some (.val v2 h3) ∧ iop P w0 hk (ev (A i)) o = some (.val v2 h4)) → iop P w0 hk (ev (A i)) o = some (.val v hk) := by
    rintro hk ⟨v2, h3, h4, h5, h6⟩
    rw [hop] at h5
    cases h5
    obtain ⟨v3, h7⟩ := iop_quiet he h6
    cases h7
    exact h6
  cases hkd : okind o with
  | eff => exact absurd hkd he
  | pure => exact iop_pure hkd hop
  | read =>
    rcases Nat.lt_or_ge i k with hik | hik
    · obtain ⟨d, hd⟩ := Nat.exists_eq_add_of_le (Nat.le_of_lt hik)
      rcases last_eff ops i d with h1 | ⟨j, y, h1, h2, hy, h4, h5⟩
      · have := R.still i d (by have := I.kle; omega) h1
        rw [hd, this]; exact hop
      · have hji : j ≠ i := by rintro rfl; rw [ho] at hy; cases hy; exact he h4
        have hjm : j < m := by have := I.kle; omega
        have hH : H k = H (j + 1) := by
          obtain ⟨e, he2⟩ := Nat.exists_eq_add_of_le (show j + 1 ≤ k by omega)
          rw [he2]
          exact R.still (j + 1) e (by have := I.kle; omega) fun j' o' h6 h7 => h5 j' o' (by omega) (by omega)
        have hjl : listed.getD j false = true := (I.eff j y hjm hy h4).2 (by omega)
        have hno : ordered (ancs ops.toList) i j = false := by
          cases hor : ordered (ancs ops.toList) i j with
          | false => rfl
          | true =>
            have := ordered_down R.back (fun j => listed.getD j false) I.down (i := i) (j := j) (by omega) hor hjl
            exact absurd (show listed.getD i false = true from this) (by rw [hun]; simp)
        rcases R.read1 i j o y (by omega) hjm ho hy hkd h4 hno with h6 | h6
        · rw [hwant] at h6; cases h6
        · rw [hH]; exact fin _ (reval_spec h6)
    · obtain ⟨d, hd⟩ := Nat.exists_eq_add_of_le hik
      rcases first_eff ops k d with h1 | ⟨j, y, h1, h2, hy, h4, h5⟩
      · subst hd
        have := R.still k d (by omega) h1
        rw [this] at hop; exact hop
      · have hH : H j = H k := by
          obtain ⟨e, he2⟩ := Nat.exists_eq_add_of_le h1
          rw [he2]
          exact R.still k e (by omega) fun j' o' h6 h7 => h5 j' o' (by omega) (by omega)
        by_cases hno : ordered (ancs ops.toList) j i = false
        · rcases R.read2 j i y o (by omega) him hy ho h4 hkd hno with h6 | h6
          · rw [hwant] at h6; cases h6
          · rw [← hH]; exact fin _ (reval_spec h6)
        · exfalso
          have := ordered_down R.back (fun j => listed.getD j false || decide (j = i)) (I.with_ready ho hall) (i := j) (j := i) (by omega) (by simpa using hno) (by simp)
          simp only [Bool.or_eq_true, decide_eq_true_eq] at this
          have := (I.eff j y (by omega) hy h4).1 (this.resolve_right (by omega))
          omega

end
end Go.Ideal
namespace Go.Ideal
open Go.RowKit
section
variable {P : Program} {w0 w : World} {h h' h2 : Heap} {μ μ' μ2 : Mp} {B : Nat}
variable {cl : Cl} {ops : Array Oper} {A : Nat → Array Value} {H : Nat → Heap} {m : Nat}

def cnt (f : Nat → Bool) : Nat → Nat
  | 0 => 0
  | k + 1 => cnt f k + if f k = true then 1 else 0

theorem cnt_le (f : Nat → Bool) : ∀ k, cnt f k ≤ k
  | 0 => Nat.le_refl _
  | k + 1 => by have := cnt_le f k; unfold cnt; split <;> omega

theorem cnt_full (f : Nat → Bool) : ∀ k, cnt f k = k → ∀ j, j < k → f j = true
  | 0, _, j, hj => by omega
  | k + 1, hc, j, hj => by
    have h1 := cnt_le f k
    unfold cnt at hc
    by_cases hk : f k = true
    · rw [if_pos hk] at hc
      by_cases hjk : j = k
      · subst hjk; exact hk
      · exact cnt_full f k (by omega) j (by omega)
    · rw [if_neg hk] at hc; omega

theorem cnt_zero (f : Nat → Bool) (hf : ∀ j, f j = false) : ∀ k, cnt f k = 0
  | 0 => rfl
  | k + 1 => by simp [cnt, cnt_zero f hf k, hf k]

theorem cnt_add (f : Nat → Bool) (i : Nat) (hf : f i = false) : ∀ k, cnt (fun j => f j || decide (j = i)) k = cnt f k + if i < k then 1 else 0
  | 0 => by simp [cnt]
  | k + 1 => by
    unfold cnt
    rw [cnt_add f i hf k]
    by_cases hk : k = i
    · subst hk; simp [hf]
    · have : (i < k + 1) ↔ (i < k) := by omega
      simp only [this, decide_eq_false hk, Bool.or_false]
      omega

theorem least (f : Nat → Bool) : ∀ n, (∀ j, j < n → f j = true) ∨ ∃ i, i < n ∧ f i = false ∧ ∀ j, j < i → f j = true
  | 0 => .inl fun j hj => by omega
  | n + 1 => by
    rcases least f n with h | ⟨i, h1, h2⟩
    · cases hn : f n with
      | true =>
        refine .inl fun j hj => ?_
        by_cases hjn : j = n
        · subst hjn; exact hn
        · exact h j (by omega)
      | false => exact .inr ⟨n, by omega, hn, h⟩
    · exact .inr ⟨i, by omega, h2⟩

theorem getD_flip {listed : Array Bool} {j : Nat} : listed.getD j true = false ↔ j < listed.size ∧ listed.getD j false = false := by
  by_cases hj : j < listed.size <;> simp [Array.getD, hj]

/-- Where nothing is ready, everything is listed. -/
theorem all_listed {listed : Array Bool} (hb : backOk ops.toList = true) (hs : listed.size = ops.size) (hr : Region.ready .any ops listed = []) : ∀ j, j < ops.size → listed.getD j false = true := by
  rcases least (fun j => listed.getD j false) ops.size with h | ⟨i, h1, h2, h3⟩
  · exact h
  · exfalso
    have : i ∈ Region.ready .any ops listed := by
      rw [mem_ready]
      refine ⟨getD_flip.2 ⟨by omega, h2⟩, ops[i], by simp [h1], fun e he hbd => ?_⟩
      exact h3 e.on (backOk_spec hb i ops[i] (by simp [h1]) e he hbd)
    rw [hr] at this
    cases this

theorem wpAny_sim (hcl : ClSim P w0 cl) (R : Run P w0 cl ops A H m) {e : IExit} {a' : Array Value} {μ0 : Mp} {Q : Exit → Act → World → Prop}
    (hend : (e = .normal ∧ m = ops.size ∧ A m = a' ∧ H m = h') ∨ (∃ v o, e = .panic v ∧ ops[m]? = some o ∧ istep P w0 cl ops o (A m) (H m) = some (.pan v h') ∧ ∀ j, m < j → j < ops.size → ordered (ancs ops.toList) m j = true))
    (hfin : Fin P w0 h μ0 e a' h' Q) :
    ∀ (fuel : Nat) (listed : Array Bool) (at' : Act) (w : World) (μ : Mp) (k : Nat), Inv P w0 ops A H m h μ0 listed at' w μ k → fuel + cnt (fun j => listed.getD j false) ops.size = ops.size → wpAny P .any ops Q fuel listed at' w := by
  have hfinal : ∀ (listed : Array Bool) (at' : Act) (w : World) (μ : Mp) (k : Nat), Inv P w0 ops A H m h μ0 listed at' w μ k → (∀ j, j < ops.size → listed.getD j false = true) → Q .normal at' w := by
    intro listed at' w μ k I hall
    rcases hend with ⟨rfl, hm, rfl, rfl⟩ | ⟨v, o, rfl, ho, _, _⟩
    · have hk : H k = H m := by
        obtain ⟨d, hd⟩ := Nat.exists_eq_add_of_le I.kle
        rw [hd]
        refine (R.still k d (by omega) fun j o h1 h2 ho hke => ?_).symm
        have := (I.eff j o (by omega) ho hke).1 (hall j (by have := R.size; omega))
        omega
      refine hfin at' μ w I.defers (hk ▸ I.rel) (hk ▸ I.ext) ?_
      refine ⟨by simp [I.tsize, R.sizeA m (Nat.le_refl _)], fun t v u hv hu => ?_⟩
      rw [Array.getElem?_toList] at hv hu
      have ht : t < (A 0).size := by rw [← R.sizeA m (Nat.le_refl _)]; exact (Array.getElem?_eq_some_iff.1 hv).1
      have := I.tmps t ht
      rw [hk, GV_all _ t m (fun j hj _ => hall j (by have := R.size; omega)) (fun j hj hd => R.keep hj hd)] at this
      simpa [hv, hu] using this
    · have := I.le m (hall m (Array.getElem?_eq_some_iff.1 ho).1)
      omega
  intro fuel
  induction fuel with
  | zero =>
    intro listed at' w μ k I hc
    have hall := cnt_full (fun j => listed.getD j false) ops.size (by omega)
    refine ⟨?_, hfinal listed at' w μ k I hall⟩
    cases hr : Region.ready .any ops listed with
    | nil => rfl
    | cons i rest =>
      exfalso
      have hi : i ∈ Region.ready .any ops listed := by rw [hr]; simp
      obtain ⟨h1, o, ho, _⟩ := mem_ready.1 hi
      have := hall i (Array.getElem?_eq_some_iff.1 ho).1
      exact absurd (show listed.getD i false = true from this) (by rw [(getD_flip.1 h1).2]; simp)
  | succ fuel ih =>
    intro listed at' w μ k I hc
    refine ⟨fun hr => hfinal listed at' w μ k I (all_listed R.back I.size hr), fun i hi => ?_⟩
    obtain ⟨h1, o, ho, hall⟩ := mem_ready.1 hi
    obtain ⟨hil, hun⟩ := getD_flip.1 h1
    have hin : i < ops.size := (Array.getElem?_eq_some_iff.1 ho).1
    have hgo : ∀ at2 w2 μ2 k2, Inv P w0 ops A H m h μ0 (listed.setIfInBounds i true) at2 w2 μ2 k2 → wpAny P .any ops Q fuel (listed.setIfInBounds i true) at2 w2 := by
      intro at2 w2 μ2 k2 I2
      refine ih _ _ _ _ _ I2 ?_
      rw [show (fun j => (listed.setIfInBounds i true).getD j false) = fun j => listed.getD j false || decide (j = i) from funext fun j => getD_set listed i j hil,
        cnt_add (fun j => listed.getD j false) i hun, if_pos hin]
      omega
    unfold wpOp
    simp only [ho]
    have him : i ≤ m := by
      rcases hend with ⟨_, hm, _⟩ | ⟨v, o2, _, ho2, _, hord⟩
      · omega
      · rcases Nat.lt_or_ge m i with h3 | h3
        · exfalso
          have := ordered_down R.back (fun j => listed.getD j false || decide (j = i)) (I.with_ready ho hall) h3 (hord i h3 hin) (by simp)
          simp only [Bool.or_eq_true, decide_eq_true_eq] at this
          rcases this with h4 | h4
          · have := I.le m h4; omega
          · omega
        · exact h3
    have hlook := I.looks R him ho hun hall
    have hwant := wanted_sim (ops := ops) (a := A i) (b := at'.tmps) (by rw [R.sizeA i him, I.tsize]) hlook
    have hρ : o.op.operands.toList.all constOk = true → ∀ x ∈ o.op.operands, RelV P w0.heap.size (H k) μ (ev (A i) x) (at'.eval x) := by
      intro hc x hx
      cases x with
      | tmp t => exact hlook t (List.mem_append_left _ (List.mem_filterMap.2 ⟨.tmp t, by simpa using hx, rfl⟩))
      | const v => exact .plain v (show constOk (.const v) = true from List.all_eq_true.1 hc _ (by simpa using hx))
      | global g => have := List.all_eq_true.1 hc _ (by simpa using hx); simp [constOk] at this
      | func f => exact relV_func (by simpa using RelL.nil) (by simpa using RelL.nil)
    rw [hwant]
    have hund : RelV P w0.heap.size (H k) μ undef undef := RelL.tuple (by simpa using RelL.nil)
    rcases Nat.lt_or_ge i m with him2 | him2
    · obtain ⟨hcon, ⟨hw, hs⟩ | ⟨hw, r, hop, ⟨v, h3, hs, hdo⟩ | ⟨v, h3, hs, _⟩⟩⟩ := istep_spec (R.step i o him2 ho)
      · injection hs with hA hH
        rw [if_neg (by simp [hw])]
        by_cases he : okind o = .eff
        · obtain ⟨hki, hHk⟩ := I.at_eff R him ho hun hall he
          exact hgo _ _ μ (i + 1) (I.next R him2 ho hun hall (k' := i + 1) hA (by rw [hH, ← hHk]; exact I.rel) (by rw [hH, ← hHk]; exact Ext.refl _ _) (by rw [hH, ← hHk]; exact hund) (.inl ⟨he, rfl, hki⟩))
        · exact hgo _ _ μ k (I.next R him2 ho hun hall hA I.rel (Ext.refl _ _) hund (.inr ⟨he, rfl⟩))
      · injection hs with hA hH
        rw [if_pos hw]
        refine .inl ?_
        by_cases he : okind o = .eff
        · obtain ⟨hki, hHk⟩ := I.at_eff R him ho hun hall he
          rw [← hHk] at hop hdo
          refine oper_sim2 hcl I.rel (hρ hcon) hop (fun v2 h4 hd2 u w' μ' g1 g2 g3 => ?_) (fun v2 h4 hd2 => (hdo.not hd2).elim) (fun f args hfa => ?_)
          · obtain ⟨rfl, rfl⟩ := hdo.inj hd2
            exact hgo _ _ μ' (i + 1) (I.next R him2 ho hun hall (k' := i + 1) hA (by rw [hH]; exact g1) (by rw [hH]; exact g2) (by rw [hH]; exact g3) (.inl ⟨he, rfl, hki⟩))
          · subst hfa
            rcases hdo with h5 | ⟨h5, _⟩ | ⟨f2, args2, h5, h6⟩ <;> cases h5
            rw [h6]; rfl
        · obtain ⟨v2, hr2⟩ := iop_quiet he hop
          subst hr2
          have h5 := hdo.inj (.inl rfl)
          obtain ⟨rfl, h5⟩ := h5
          have hop2 := I.at_quiet R him2 ho hun hall he hw hop
          refine oper_sim2 hcl I.rel (hρ hcon) hop2 (fun v3 h4 hd2 u w' μ' g1 g2 g3 => ?_) (fun v2 h4 hd2 => ((show DoesV cl (H k) _ _ _ from .inl rfl).not hd2).elim) (fun f args hfa => by cases hfa)
          obtain ⟨rfl, rfl⟩ := (show DoesV cl (H k) _ _ _ from .inl rfl).inj hd2
          exact hgo _ _ μ' k (I.next R him2 ho hun hall hA g1 g2 g3 (.inr ⟨he, rfl⟩))
      · cases hs
    · have him3 : i = m := by omega
      subst him3
      rcases hend with ⟨_, hm, _⟩ | ⟨v, o2, rfl, ho2, hst, _⟩
      · omega
      · rw [ho] at ho2
        cases ho2
        obtain ⟨hcon, ⟨hw, hs⟩ | ⟨hw, r, hop, ⟨v, h3, hs, _⟩ | ⟨v, h3, hs, hdo⟩⟩⟩ := istep_spec hst
        · cases hs
        · cases hs
        · injection hs with hv hh
          subst hv; subst hh
          rw [if_pos hw]
          refine .inl ?_
          by_cases he : okind o = .eff
          · obtain ⟨hki, hHk⟩ := I.at_eff R him ho hun hall he
            rw [← hHk] at hop hdo
            refine oper_sim2 hcl I.rel (hρ hcon) hop (fun v2 h4 hd2 => (hd2.not hdo).elim) (fun v2 h4 hd2 u w' μ' g1 g2 g3 => ?_) (fun f args hfa => ?_)
            · obtain ⟨rfl, rfl⟩ := hdo.inj hd2
              exact hfin at' μ' w' I.defers g1 (I.ext.trans g2) u g3
            · subst hfa
              rcases hdo with ⟨h5, _⟩ | ⟨f2, args2, h5, h6⟩ <;> cases h5
              rw [h6]; rfl
          · obtain ⟨v2, hr2⟩ := iop_quiet he hop
            subst hr2
            exact ((show DoesV cl (H i) _ _ _ from .inl rfl).not hdo).elim

theorem idraw_sim (hm : P.follows .mixedOrders = true) (hcl : ClSim P w0 cl) {a : Array Value} {e : IExit} {a' : Array Value} (hr : idraw P w0 cl ops a h = some (e, a', h'))
    {at' : Act} {Q : Exit → Act → World → Prop} (hd : at'.defers = []) (hw : RelW P w0 h μ w) (hl : RelL P w0.heap.size h μ a.toList at'.tmps.toList) (hf : Fin P w0 h μ e a' h' Q) {id : Nat} :
    (Code.region id ops true).wp P Q at' w := by
  unfold idraw at hr
  by_cases hok : (drawOk ops.toList && backOk ops.toList) = true
  case neg => rw [if_neg hok] at hr; cases hr
  rw [if_pos hok] at hr
  rw [Bool.and_eq_true] at hok
  cases htr : itrace P w0 cl ops 0 ops.toList a h with
  | none => rw [htr] at hr; cases hr
  | some res =>
  obtain ⟨e1, a1, h1, tr⟩ := res
  rw [htr] at hr
  simp only at hr
  rw [Option.ite_none_right_eq_some] at hr
  obtain ⟨hchk, hr⟩ := hr
  cases hr
  rw [Bool.and_eq_true] at hchk
  obtain ⟨hopen, hpan⟩ := hchk
  obtain ⟨s1, s2, s3, s4, s5, s6⟩ := itrace_spec ops ops.toList 0 a h e a' h' tr htr
  have hlen : tr.length ≤ ops.size := by simpa using s3
  have hget : ∀ k, k < tr.length → ∃ r, tr[k]? = some r ∧ r.a = stA tr a' k ∧ r.h = stH tr h' k ∧ r.h' = stH tr h' (k + 1) := by
    intro k hk
    refine ⟨tr[k], by simp [hk], by simp [stA, hk], by simp [stH, hk], s5 k _ (by simp [hk])⟩
  have hpair : ∀ (i j : Nat) (x y : Oper), i < j → j < tr.length → ops[i]? = some x → ops[j]? = some y → ((okind x = .eff ∧ okind y = .read) ∨ (okind x = .read ∧ okind y = .eff)) →
      ordered (ancs ops.toList) i j = false → chk P w0 ops tr i j = true := by
    intro i j x y hij hj hx hy hk hno
    have hmem : (i, j) ∈ openPairs ops.toList := by
      unfold openPairs
      simp only [List.mem_flatMap, List.mem_range, List.mem_map, List.mem_filter]
      refine ⟨j, by simpa using Nat.lt_of_lt_of_le hj hlen, i, ⟨hij, ?_⟩, rfl⟩
      have hx' : ops.toList[i]? = some x := by simpa using hx
      have hy' : ops.toList[j]? = some y := by simpa using hy
      simp only [hx', hy', hno, Bool.not_false, Bool.true_and]
      rcases hk with ⟨h1, h2⟩ | ⟨h1, h2⟩ <;> simp [h1, h2]
    have := List.all_eq_true.1 hopen _ hmem
    simp only [Bool.or_eq_true, decide_eq_true_eq] at this
    exact this.resolve_left (by omega)
  have mk : ∀ m, m ≤ tr.length → (m < tr.length ∨ e = .normal) → (∀ k o, k < m → ops[k]? = some o → istep P w0 cl ops o (stA tr a' k) (stH tr h' k) = some (.go (stA tr a' (k + 1)) (stH tr h' (k + 1)))) → Run P w0 cl ops (stA tr a') (stH tr h') m := by
    intro m hmt _ hst
    refine ⟨hok.1, hok.2, hst, fun i j x y hij hj hx hy hkx hky hno => ?_, fun i j x y hij hj hx hy hkx hky hno => ?_, by omega⟩
    · have := hpair i j x y hij (by omega) hx hy (.inr ⟨hkx, hky⟩) hno
      obtain ⟨ri, hri, ra, rh, rh'⟩ := hget i (by omega)
      obtain ⟨rj, hrj, qa, qh, qh'⟩ := hget j (by omega)
      simp only [chk, hx, hy, hri, hrj, if_pos hkx, Bool.or_eq_true, Bool.not_eq_true'] at this
      rw [ra, rh, qh'] at this
      exact this
    · have := hpair i j x y hij (by omega) hx hy (.inl ⟨hkx, hky⟩) hno
      obtain ⟨ri, hri, ra, rh, rh'⟩ := hget i (by omega)
      obtain ⟨rj, hrj, qa, qh, qh'⟩ := hget j (by omega)
      have hne : ¬ okind x = .read := by rw [hkx]; simp
      simp only [chk, hx, hy, hri, hrj, if_neg hne, Bool.or_eq_true, Bool.not_eq_true'] at this
      rw [qa, qh, rh] at this
      exact this
  have h0 : ∀ j, (Array.replicate ops.size false).getD j false = false := fun j => by
    by_cases hj : j < ops.size <;> simp [Array.getD, hj]
  have hG : ∀ (m t : Nat), GV (stA tr a') ops (fun j => (Array.replicate ops.size false).getD j false) m t = a.getD t undef := by
    intro m t
    rw [← s1]
    have := GV_skip (A := stA tr a') (ops := ops) (fun j => (Array.replicate ops.size false).getD j false) t 0 m fun j _ _ hf => by rw [h0] at hf; cases hf.1
    rw [Nat.zero_add] at this
    rw [this]; rfl
  have inv : ∀ m, Inv P w0 ops (stA tr a') (stH tr h') m h μ (Array.replicate ops.size false) at' w.drew μ 0 := by
    intro m
    refine ⟨by simp, fun j o _ hf => (by rw [h0] at hf; cases hf), fun j hf => (by rw [h0] at hf; cases hf), hd, by rw [s1]; simpa using hl.1.symm, fun t ht => ?_, by rw [s2]; exact hw.drew, by rw [s2]; exact Ext.refl _ _, by omega, fun j o _ _ _ => by rw [h0]; simp⟩
    rw [hG, s2]
    exact relL_get hl t
  refine wp_region_any hm ?_
  have hcnt : ops.size + cnt (fun j => (Array.replicate ops.size false).getD j false) ops.size = ops.size := by rw [cnt_zero _ h0, Nat.add_zero]
  rcases s6 with ⟨rfl, hn⟩ | ⟨v, p, o, rfl, hp, hpo, hps⟩
  · have hn' : tr.length = ops.size := by simpa using hn
    refine wpAny_sim hcl (mk ops.size (by omega) (.inr rfl) fun k o hk ho => s4 k o (by omega) (.inr rfl) (by simpa using ho)) (.inl ⟨rfl, rfl, ?_, ?_⟩) hf _ _ _ _ μ 0 (inv _) hcnt
    · simp [stA, hn']
    · simp [stH, hn']
  · refine wpAny_sim hcl (mk p (by omega) (.inl (by omega)) fun k o hk ho => s4 k o (by omega) (.inl (by omega)) (by simpa using ho)) (.inr ⟨v, o, rfl, by simpa using hpo, hps, fun j hpj hj => ?_⟩) hf _ _ _ _ μ 0 (inv _) hcnt
    have := List.all_eq_true.1 hpan j (List.mem_range.2 hj)
    simp only [Bool.or_eq_true, decide_eq_true_eq] at this
    have := this.resolve_left (by omega)
    rwa [hp] at this

end
end Go.Ideal
