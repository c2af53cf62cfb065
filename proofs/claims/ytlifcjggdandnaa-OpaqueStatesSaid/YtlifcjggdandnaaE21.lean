/- A program that is run over a view: the law. -/
import Derived.Test.YtlifcjggdandnaaE20
namespace Go.Ideal
open Go.RowKit
section
variable {P : Program} {w0 w : World} {h h' h2 : Heap} {μ μ' μ2 : Mp} {B : Nat}

theorem wpS_region_draw {ops : Array Oper} {id : Nat} {Q : Exit → Act → List Frame → World → Prop} {a : Act} {cs : List Frame}
    (h : ∀ t, wpOpsS P ops Q (Region.schedule (P.follows .mixedOrders) ops t) a cs w.drew) : (Code.region id ops true).wpS P Q a cs w :=
  fun b k hb hr => let ⟨e, a', cs', w', q, r⟩ := wp_opsS _ a cs _ (h _) b k hb hr; ⟨e, a', cs', w', q, .of_steps (.one step_region_draw) r⟩

theorem wpOpsS_cons {ops : Array Oper} {i : Nat} {o : Oper} {rest : List Nat} {Q : Exit → Act → List Frame → World → Prop} {a : Act} {cs : List Frame}
    (hi : ops[i]? = some o) (hg : o.guard = none) (h : o.wp P a w (fun a' w' => wpOpsS P ops Q rest a' cs w') (fun e a' w' => Q e a' cs w')) : wpOpsS P ops Q (i :: rest) a cs w := by
  have hw : Region.wanted o (yielded ops a.tmps) = true := by simp [Region.wanted, hg]
  simp only [wpOpsS, hi, hw, if_true]
  unfold Oper.wp at h
  generalize (execOp a.eval o).run P w = r at h
  split
  · exact h.elim
  · exact h

theorem wpList_cons {ops : Array Oper} {o : Oper} {rest : List Oper} {Q : Exit → Act → World → Prop} {a : Act}
    (hg : o.guard = none) (h : o.wp P a w (wpList P ops Q rest) Q) : wpList P ops Q (o :: rest) a w := by
  have hw : Region.wanted o (yielded ops a.tmps) = true := by simp [Region.wanted, hg]
  unfold wpList
  rw [if_pos hw]
  exact .inl h

/-- What the deferred part recovers. -/
def RecAt (u : FrameMode) (v : Value) (u' : FrameMode) : Prop :=
  (u = .returning ∧ v = .nilIface ∧ u' = .returning) ∨ (u = .panicking [{ v := v, recovered := false }] ∧ u' = .panicking [{ v := v, recovered := true }])

theorem recover_none (c : Frame) (cs : List Frame) (hu : c.mode = .returning) : recoverD (c :: cs) = none := by
  obtain ⟨fn, tmps, todo, defers, mode, kind, ro⟩ := c
  simp only at hu
  subst hu
  rfl

theorem recover_some (c : Frame) (cs : List Frame) (v : Value) (hu : c.mode = .panicking [{ v := v, recovered := false }]) :
    recoverD (c :: cs) = some (v, { c with mode := .panicking [{ v := v, recovered := true }] } :: cs) := by
  obtain ⟨fn, tmps, todo, defers, mode, kind, ro⟩ := c
  simp only at hu
  subst hu
  rfl

theorem recAt_settle {u u' : FrameMode} {v : Value} (hr : RecAt u v u') : settle u' = .returning := by
  rcases hr with ⟨_, _, rfl⟩ | ⟨_, rfl⟩
  · rfl
  · simp [settle]

/-- A deferred operation that asks what is recovered. -/
theorem wpOpsS_recover {ops : Array Oper} {i : Nat} {o : Oper} {rest : List Nat} {Q : Exit → Act → List Frame → World → Prop} {a : Act} {c : Frame} {cs : List Frame} {u u' : FrameMode} {v : Value}
    (hi : ops[i]? = some o) (hg : o.guard = none) (hop : (execOp a.eval o).run P w = .ok .recover w) (hu : c.mode = u) (hr : RecAt u v u')
    (h : wpOpsS P ops Q rest (a.put o.dst v) ({ c with mode := u' } :: cs) w) : wpOpsS P ops Q (i :: rest) a (c :: cs) w := by
  have hw : Region.wanted o (yielded ops a.tmps) = true := by simp [Region.wanted, hg]
  simp only [wpOpsS, hi, hw, if_true, hop]
  rcases hr with ⟨rfl, rfl, rfl⟩ | ⟨rfl, rfl⟩
  · rw [recover_none c cs hu]
    have : ({ c with mode := .returning } : Frame) = c := by rw [← hu]
    rw [this] at h
    exact h
  · rw [recover_some c cs v hu]
    exact h

variable {R D O : FuncId} {tV tF tI tE : TypeId}

theorem run_leaf_store (hI : tsize P tI = some 1) {a : Addr} {x : Value} (hx : leaf x = true) (hr : wr1 h a x = some h') : istore P h tI a x = some h' := by
  unfold istore
  cases x <;> first | (simp [hI, hr]; done) | simp [leaf] at hx

/-- The deferred part: it tells the view that it is over, and lays down what was needed. -/
theorem viewDefer_ok (F : ViewFns P R D O tV tF tI tE) {cl : Cl} (hcl : ClSim P w0 cl) (hw : RelW P w0 h μ w) {r : Nat} {b2 b4 : Value} {v2 p : Value} {p' : Value} {res : IRet}
    (h2' : RelV P w0.heap.size h μ (.pointer (some ⟨r, 0, some 0⟩)) b2) (h4' : RelV P w0.heap.size h μ (.pointer (some ⟨r + 1, 0, some 0⟩)) b4)
    (hv2 : rd w0 h ⟨r, 0, some 0⟩ = some v2) (hp : RelV P w0.heap.size h μ p p') (ht : viewTail w0 O cl r v2 p h = some (res, h')) {u u' : FrameMode} (hrec : RecAt u p' u') :
    CallsD P D #[b2, b4] u w fun e u2 w' => u2 = u' ∧ ∃ x, e = .returned x ∧ ∃ μ', RelW P w0 h' μ' w' ∧ Ext h μ h' μ' ∧ ∃ y, res = .ret y ∧ rd w0 h' ⟨r + 1, 0, some 0⟩ = some y := by
  obtain ⟨a2, rfl, ha2⟩ := h2'.ptr_inv
  obtain ⟨a4, rfl, ha4⟩ := h4'.ptr_inv
  refine callsD_of_wpS F.hD F.bD fun c₀ cs hu => ?_
  rw [F.nD]
  refine wpS_region_draw fun t => ?_
  rw [F.mixed]
  -- the three steps
  have hload : ∀ (w : World), RelW P w0 h μ w → ∃ v2', (loadVar tV a2).run P w = .ok v2' w ∧ RelV P w0.heap.size h μ v2 v2' := fun w hw =>
    iload_sim hw ha2 (by simp [iload, F.vV, hv2])
  obtain ⟨v2', hl2, hv2'⟩ := hload w.drew hw.drew
  have hend : ∀ (tm : Array Value), tm = #[.pointer (some a2), .pointer (some a4), v2', p', undef] → wpOpsS P (viewDeferOps tV tI tE O) (bodyPostS P F.fnD c₀ cs fun e u2 w' => u2 = u' ∧ ∃ x, e = .returned x ∧ ∃ μ', RelW P w0 h' μ' w' ∧ Ext h μ h' μ' ∧ ∃ y, res = .ret y ∧ rd w0 h' ⟨r + 1, 0, some 0⟩ = some y) [2, 3] { tmps := tm, defers := [] } ({ c₀ with mode := u' } :: cs) w.drew := by
    intro tm htm
    subst htm
    refine wpOpsS_cons (o := vOp2 tV tI tE O) rfl rfl ?_
    unfold viewTail at ht
    cases hc : cl O [v2, p] h with
    | none => simp [hc] at ht
    | some rr =>
      obtain ⟨ir, h3⟩ := rr
      cases ir with
      | pan v => simp [hc] at ht
      | ret x =>
        simp only [hc] at ht
        split at ht
        case isFalse => cases ht
        rename_i hleaf
        obtain ⟨h4, hwr, ht⟩ := Option.bind_eq_some_iff.1 ht
        obtain ⟨y, hrd, ht⟩ := Option.map_eq_some_iff.1 ht
        cases ht
        have hcall := hcl O [v2, p] h (.ret x) h3 hc μ w.drew #[v2', p'] hw.drew (RelL.cons hv2' (RelL.cons hp RelL.nil))
        unfold Oper.wp
        have hrun : (execOp (Act.eval { tmps := #[.pointer (some a2), .pointer (some a4), v2', p', undef], defers := [] }) (vOp2 tV tI tE O)).run P w.drew = .ok (.enter O #[v2', p']) w.drew := by
          simp [vOp2, execOp, resolve, Deferred.ofValue, invoke, run_callFunc F.cO, Act.eval]
        rw [hrun]
        refine hcall.mono fun e w1 ⟨μ1, g1, g2, g3⟩ => ?_
        cases e with
        | panicked c => exact g3.elim
        | outgrown => exact g3.elim
        | returned u1 =>
          refine wpOpsS_cons (o := vOp3 tI) rfl rfl ?_
          unfold Oper.wp
          have hiop : iop P w0 h3 (ev #[.pointer (some ⟨r, 0, some 0⟩), .pointer (some ⟨r + 1, 0, some 0⟩), v2, p, x]) (vOp3 tI) = some (.skip h') := by
            have h1 : istore P h3 tI ⟨r + 1, 0, some 0⟩ x = some h' := run_leaf_store F.sI hleaf hwr
            simp [iop, vOp3, ev, h1]
          refine oper_sim2 hcl g1 (fun y hy => ?_) hiop (fun v h5 hd2 u3 w3 μ3 k1 k2 _ => ?_) (fun v h5 hd2 => ?_) (fun f args hf => by cases hf)
          · simp [vOp3, Op.operands] at hy
            rcases hy with rfl | rfl
            · exact h4'.mono g2
            · exact g3
          · rcases hd2 with hd2 | ⟨hd2, _⟩ | ⟨_, _, hd2, _⟩ <;> cases hd2
            refine ⟨rfl, u', rfl, .tuple #[], ?_, rfl, _, rfl, μ3, k1, g2.trans k2, y, rfl, hrd⟩
            exact results_none F.rD _ _ _
          · rcases hd2 with ⟨hd2, _⟩ | ⟨_, _, hd2, _⟩ <;> cases hd2
  have hrecop : ∀ (a : Act), (execOp a.eval (vOp1 tE)).run P w.drew = .ok .recover w.drew := fun _ => rfl
  have hld : ∀ (a : Act), a.tmps.getD 0 undef = .pointer (some a2) → (execOp a.eval (vOp0 tV)).run P w.drew = .ok (.value v2') w.drew := by
    intro a ha
    have : a.eval (.tmp 0) = .pointer (some a2) := ha
    simp [vOp0, execOp, this, Instr.loadAt, Instr.sureAddr, hl2]
  rcases linear_deferOps tV tI tE O t with hs | hs <;> rw [hs]
  · refine wpOpsS_cons (o := vOp0 tV) rfl rfl ?_
    unfold Oper.wp
    rw [hld _ (by rfl)]
    refine wpOpsS_recover (ops := viewDeferOps tV tI tE O) (i := 1) (o := vOp1 tE) rfl rfl (hrecop _) hu hrec ?_
    exact hend _ rfl
  · refine wpOpsS_recover (ops := viewDeferOps tV tI tE O) (i := 1) (o := vOp1 tE) rfl rfl (hrecop _) hu hrec ?_
    refine wpOpsS_cons (o := vOp0 tV) rfl rfl ?_
    unfold Oper.wp
    rw [hld _ (by rfl)]
    exact hend _ rfl

end
end Go.Ideal
namespace Go.Ideal
open Go.RowKit
section
variable {P : Program} {w0 w : World} {h h' h2 : Heap} {μ μ' μ2 : Mp} {B : Nat}
variable {R D O : FuncId} {tV tF tI tE : TypeId}

def wOp0 (tV : TypeId) : Oper := { dst := some 2, op := .box tV (.tmp 0), type := 0, pos := "view.go:59", after := #[], guard := none }
def wOp1 (tI : TypeId) : Oper := { dst := some 4, op := .alloc tI, type := 0, pos := "view.go:59", after := #[], guard := none }
def wOp2 (D : FuncId) : Oper := { dst := some 5, op := .makeFunc (.func D) #[] #[.tmp 2, .tmp 4], type := 1, pos := "view.go:60", after := #[], guard := none }
def wOp3 : Oper := { dst := none, op := .defer { callee := .value (.tmp 5), args := #[], argTypes := #[] }, type := 0, pos := "view.go:60", after := #[{ on := 0, ground := .data }], guard := none }
def wOp4 (tF : TypeId) : Oper := { dst := some 6, op := .move (.tmp 1), type := tF, pos := "view.go:61", after := #[], guard := none }
def wOp5 (tV : TypeId) : Oper := { dst := some 7, op := .load tV (.tmp 2), type := tV, pos := "view.go:61", after := #[], guard := none }
def wOp6 (tV : TypeId) : Oper := { dst := some 8, op := .call { callee := .value (.tmp 6), args := #[.tmp 7], argTypes := #[tV] }, type := 0, pos := "view.go:61", after := #[{ on := 0, ground := .data }, { on := 1, ground := .data }], guard := none }
def wOp7 (tI : TypeId) : Oper := { dst := none, op := .store tI (.tmp 4) (.const (.int .i64 (-1))), type := 0, pos := "view.go:62", after := #[], guard := none }

theorem viewBody_eq : viewBody tV tF tI D = .seq (.region 0 #[wOp0 tV, wOp1 tI] false) (.seq (.region 1 #[wOp2 D, wOp3] false) (.seq (.region 2 #[wOp4 tF, wOp5 tV, wOp6 tV] false) (.seq (.region 3 #[wOp7 tI] false) .ret))) := rfl

theorem relV_ptr_new {o : IObj} {p : Nat × Nat} (hl : μ.length = h.length) (hg : o.gen = 0) : RelV P B (h ++ [o]) (μ ++ [p]) (.pointer (some ⟨h.length, 0, some 0⟩)) (.pointer (some ⟨p.1, 0, none⟩)) :=
  .ptr _ _ (new_addr o p hl hg)

theorem ev_eq {at' A : Act} {t : Nat} {u : Value} (hA : A = at'.put (some t) u) (hs : t < at'.tmps.size) : A.eval (.tmp t) = u := by
  rw [hA]; exact put_getD_eq at' u t hs
theorem ev_ne {at' A : Act} {t s : Nat} {u : Value} (hA : A = at'.put (some t) u) (hs : t ≠ s) : A.eval (.tmp s) = at'.eval (.tmp s) := by
  rw [hA]; exact put_getD_ne at' (some t) u s (by simpa using hs)
theorem sz_put {at' A : Act} {t : Nat} {u : Value} (hA : A = at'.put (some t) u) : A.tmps.size = at'.tmps.size := by
  rw [hA]; exact put_size at' _ _
theorem df_put {at' A : Act} {t : Nat} {u : Value} (hA : A = at'.put (some t) u) : A.defers = at'.defers := by
  rw [hA]; exact put_defers at' _ _

/-- One operation that yields a value. -/
theorem one_val {ops : Array Oper} {o : Oper} {rest : List Oper} {Q : Exit → Act → World → Prop} {at' : Act} {ρ : Operand → Value} {t : Nat} (hg : o.guard = none) (hdst : o.dst = some t) (hw : RelW P w0 h μ w)
    (hρ : ∀ x ∈ o.op.operands, RelV P w0.heap.size h μ (ρ x) (at'.eval x)) {v : Value} (hr : iop P w0 h ρ o = some (.val v h'))
    (hnext : ∀ u w' μ' A, A = at'.put (some t) u → RelW P w0 h' μ' w' → Ext h μ h' μ' → RelV P w0.heap.size h' μ' v u → wpList P ops Q rest A w') : wpList P ops Q (o :: rest) at' w := by
  refine wpList_cons hg ?_
  refine oper_sim2 (cl := fun _ _ _ => none) (fun f args h r h' hr => by cases hr) hw hρ hr (fun v2 h3 hd u w' μ' g1 g2 g3 => ?_) (fun v2 h3 hd => ?_) (fun f args hf => by cases hf)
  · rcases hd with hd | ⟨hd, _⟩ | ⟨_, _, hd, _⟩ <;> cases hd
    exact hnext u w' μ' _ (by rw [hdst]) g1 g2 g3
  · rcases hd with ⟨hd, _⟩ | ⟨_, _, hd, _⟩ <;> cases hd

theorem one_defer {ops : Array Oper} {o : Oper} {d : Deferred} {Q : Exit → Act → World → Prop} {at' : Act} (hg : o.guard = none) (hdst : o.dst = none) (hdef : (execOp at'.eval o).run P w = .ok (.defer d) w)
    (hnext : ∀ A, A = { at' with defers := d :: at'.defers } → Q .normal A w) : wpList P ops Q [o] at' w := by
  refine wpList_cons hg ?_
  unfold Oper.wp
  rw [hdef]
  simp only [Oper.upon, hdst, Act.put]
  exact hnext _ rfl

theorem one_skip {ops : Array Oper} {o : Oper} {rest : List Oper} {Q : Exit → Act → World → Prop} {at' : Act} {ρ : Operand → Value} (hg : o.guard = none) (hw : RelW P w0 h μ w)
    (hρ : ∀ x ∈ o.op.operands, RelV P w0.heap.size h μ (ρ x) (at'.eval x)) (hr : iop P w0 h ρ o = some (.skip h'))
    (hnext : ∀ u w' μ', RelW P w0 h' μ' w' → Ext h μ h' μ' → wpList P ops Q rest (at'.put o.dst u) w') : wpList P ops Q (o :: rest) at' w := by
  refine wpList_cons hg ?_
  refine oper_sim2 (cl := fun _ _ _ => none) (fun f args h r h' hr => by cases hr) hw hρ hr (fun v2 h3 hd u w' μ' g1 g2 g3 => ?_) (fun v2 h3 hd => ?_) (fun f args hf => by cases hf)
  · rcases hd with hd | ⟨hd, _⟩ | ⟨_, _, hd, _⟩ <;> cases hd
    exact hnext u w' μ' g1 g2
  · rcases hd with ⟨hd, _⟩ | ⟨_, _, hd, _⟩ <;> cases hd

/-- How the runner is left. -/
theorem viewLeave_ok (F : ViewFns P R D O tV tF tI tE) {cl : Cl} (hcl : ClSim P w0 cl) {res : IRet} {h0 h4 : Heap} {μ3 μ4 : Mp} {w4 : World} {r : Nat} {d2 d4 : Value} {tm : Array Value} {v2 p p' : Value} {u u' : FrameMode}
    (e0 : Ext h μ h0 μ3) (hd2 : RelV P w0.heap.size h0 μ3 (.pointer (some ⟨r, 0, some 0⟩)) d2) (hd4 : RelV P w0.heap.size h0 μ3 (.pointer (some ⟨r + 1, 0, some 0⟩)) d4)
    (hu4 : RelV P w0.heap.size h0 μ3 (.pointer (some ⟨r + 1, 0, some 0⟩)) (tm.getD 4 undef))
    (hw4 : RelW P w0 h4 μ4 w4) (he4 : Ext h0 μ3 h4 μ4) (hrd : rd w0 h4 ⟨r, 0, some 0⟩ = some v2) (hp : RelV P w0.heap.size h4 μ4 p p')
    (ht : viewTail w0 O cl r v2 p h4 = some (res, h')) (hrec : RecAt u p' u') :
    Leaves P F.fnR tm (fun e w' => ∃ μ', RelW P w0 h' μ' w' ∧ Ext h μ h' μ' ∧ RelRet P w0.heap.size h' μ' res e) [{ target := .fn (.func D) #[d2, d4], args := #[] }] u w4 := by
  refine leaves_cons (by rcases hrec with ⟨rfl, _⟩ | ⟨rfl, _⟩ <;> simp) (f := D) (args := #[d2, d4]) (by simp [invoke, run_callFunc F.cD]) ?_
  refine (viewDefer_ok F hcl hw4 (hd2.mono he4) (hd4.mono he4) hrd hp ht hrec).mono fun e u2 w5 hh => ?_
  obtain ⟨rfl, x, rfl, μ5, k1, k2, y, rfl, hy⟩ := hh
  simp only [recAt_settle hrec]
  obtain ⟨a4, ha, ha4⟩ := (hu4.mono (he4.trans k2)).ptr_inv
  obtain ⟨z, hz, hrz⟩ := iload_sim (t := tI) (v := y) k1 ha4 (by simp [iload, F.vI, hy])
  refine ⟨z, ?_, μ5, k1, (e0.trans he4).trans k2, hrz⟩
  have hres : (resSem tm (.cell 4 tI)).run P w5 = .ok z w5 := by
    simp only [resSem, ha]
    simpa [asAddr] using hz
  rw [results_eq, F.rR]
  simp [hres]

theorem viewRun_ok (F : ViewFns P R D O tV tF tI tE) {cl : Cl} (hcl : ClSim P w0 cl) {args : List Value} {res : IRet} (hr : viewRun P w0 tV tI O cl args h = some (res, h')) : Does P w0 R args h res h' := by
  intro μ w args' hw hl
  unfold viewRun at hr
  match args, hr, hl with
  | [v, pf], hr, hl =>
  simp only at hr
  split at hr
  case isFalse => cases hr
  rename_i hleaf
  obtain ⟨v', pf', rfl⟩ : ∃ v' pf', args' = #[v', pf'] := by
    have h1 := hl.1
    obtain ⟨l⟩ := args'
    match l, h1 with
    | [x', y'], _ => exact ⟨x', y', rfl⟩
  have hv : RelV P w0.heap.size h μ v v' := hl.2 0 _ _ rfl rfl
  have hpf : RelV P w0.heap.size h μ pf pf' := hl.2 1 _ _ rfl rfl
  cases hic : icall P pf [v] with
  | none => simp [hic] at hr
  | some ic =>
  cases ic with
  | val _ _ => simp [hic] at hr
  | skip _ => simp [hic] at hr
  | panic _ => simp [hic] at hr
  | call g xs =>
  simp only [hic] at hr
  have hvc : vcells v = [v] := by cases v <;> first | rfl | (simp [leaf] at hleaf)
  refine calls_of_wp_defers F.hR F.bR ?_
  rw [F.nR, viewBody_eq]
  obtain ⟨A0, hA0⟩ : ∃ A : Act, A = { tmps := #[v', pf'] ++ Array.replicate (9 - (#[v', pf'] : Array Value).size) undef, defers := [] } := ⟨_, rfl⟩
  rw [← hA0]
  have s0 : A0.tmps.size = 9 := by rw [hA0]; simp
  have t0 : A0.eval (.tmp 0) = v' := by rw [hA0]; rfl
  have t1 : A0.eval (.tmp 1) = pf' := by rw [hA0]; rfl
  have f0 : A0.defers = [] := by rw [hA0]
  clear hA0
  obtain ⟨H, hH⟩ : ∃ H : Heap, H = h ++ [.row [v] tV 0] ++ [.row [.int .i64 0] tI 0] := ⟨_, rfl⟩
  have hrd0 : rd w0 H ⟨h.length, 0, some 0⟩ = some v := by rw [hH]; simp [rd]
  refine wp_seq (wp_region_list ?_)
  refine one_val (o := wOp0 tV) (t := 2) (ρ := fun _ => v) (h' := h ++ [.row [v] tV 0]) rfl rfl hw (fun x hx => ?_) (by simp [iop, wOp0, hvc, hleaf, ialloc]; rfl) fun u2 w1 μ1 A1 q1 g1 e1 r2 => ?_
  · simp [wOp0, Op.operands] at hx; subst hx; rw [t0]; exact hv
  refine one_val (o := wOp1 tI) (t := 4) (ρ := fun _ => v) (h' := H) rfl rfl g1 (fun x hx => by simp [wOp1, Op.operands] at hx) (by rw [hH]; simp [iop, wOp1, F.zI, ialloc]; rfl) fun u4 w2 μ2 A2 q2 g2 e2 r4 => ?_
  have r2' := r2.mono e2
  have r4' : RelV P w0.heap.size H μ2 (.pointer (some ⟨h.length + 1, 0, some 0⟩)) u4 := by simpa using r4
  have e12 := e1.trans e2
  rw [← hH] at hr
  clear hH
  refine wp_seq (wp_region_list ?_)
  refine one_val (o := wOp2 D) (t := 5) (ρ := fun x => match x with | .tmp 2 => .pointer (some ⟨h.length, 0, some 0⟩) | _ => .pointer (some ⟨h.length + 1, 0, some 0⟩)) (h' := H)
    (v := .func (.func D) #[] #[.pointer (some ⟨h.length, 0, some 0⟩), .pointer (some ⟨h.length + 1, 0, some 0⟩)]) rfl rfl g2 (fun x hx => ?_) (by simp [iop, wOp2]) fun u5 w3 μ3 A3 q3 g3 e3 r5 => ?_
  · simp [wOp2, Op.operands] at hx
    rcases hx with rfl | rfl
    · rw [ev_ne q2 (by decide), ev_eq q1 (by omega)]; exact r2'
    · rw [ev_eq q2 (by rw [sz_put q1]; omega)]; exact r4'
  obtain ⟨ys, ds, rfl, hys, hds⟩ := r5.func_inv
  have hys0 : ys = #[] := by have := hys.1; simp at this; simpa using this.symm
  subst hys0
  obtain ⟨d2, d4, rfl⟩ : ∃ d2 d4, ds = #[d2, d4] := by
    have h1 := hds.1
    obtain ⟨l⟩ := ds
    match l, h1 with
    | [x', y'], _ => exact ⟨x', y', rfl⟩
  have hd2 : RelV P w0.heap.size H μ3 (.pointer (some ⟨h.length, 0, some 0⟩)) d2 := hds.2 0 _ _ rfl rfl
  have hd4 : RelV P w0.heap.size H μ3 (.pointer (some ⟨h.length + 1, 0, some 0⟩)) d4 := hds.2 1 _ _ rfl rfl
  have e123 := e12.trans e3
  have hu4 := r4'.mono e3
  have z1 : A1.tmps.size = 9 := by rw [sz_put q1, s0]
  have z2 : A2.tmps.size = 9 := by rw [sz_put q2, z1]
  have z3 : A3.tmps.size = 9 := by rw [sz_put q3, z2]
  have t5 : A3.eval (.tmp 5) = .func (.func D) #[] #[d2, d4] := ev_eq q3 (by omega)
  have t4 : A3.eval (.tmp 4) = u4 := by rw [ev_ne q3 (by decide), ev_eq q2 (by omega)]
  have t2 : A3.eval (.tmp 2) = u2 := by rw [ev_ne q3 (by decide), ev_ne q2 (by decide), ev_eq q1 (by omega)]
  have t1' : A3.eval (.tmp 1) = pf' := by rw [ev_ne q3 (by decide), ev_ne q2 (by decide), ev_ne q1 (by decide), t1]
  have f3 : A3.defers = [] := by rw [df_put q3, df_put q2, df_put q1, f0]
  clear q1 q2 q3 t0 t1 s0 z1 z2
  have hdef : (execOp A3.eval wOp3).run P w3 = .ok (.defer { target := .fn (.func D) #[d2, d4], args := #[] }) w3 := by
    simp [wOp3, execOp, resolve, Deferred.ofValue, t5]
  refine one_defer rfl rfl hdef fun A4 hA4 => ?_
  have k4 : A4.eval (.tmp 4) = u4 := by rw [hA4]; exact t4
  have k2 : A4.eval (.tmp 2) = u2 := by rw [hA4]; exact t2
  have k1 : A4.eval (.tmp 1) = pf' := by rw [hA4]; exact t1'
  have kd : A4.defers = [{ target := .fn (.func D) #[d2, d4], args := #[] }] := by rw [hA4]; simp [f3]
  have kz : A4.tmps.size = 9 := by rw [hA4]; exact z3
  clear hA4 t5 t4 t2 t1' f3 z3 hdef
  refine wp_seq (wp_region_list ?_)
  refine one_val (o := wOp4 tF) (t := 6) (ρ := fun _ => pf) (v := pf) (h' := H) rfl rfl g3 (fun x hx => ?_) (by simp [iop, wOp4]) fun u6 w4 μ4 A5 q5 g4 e4 r6 => ?_
  · simp [wOp4, Op.operands] at hx; subst hx; rw [k1]; exact hpf.mono e123
  refine one_val (o := wOp5 tV) (t := 7) (ρ := fun _ => .pointer (some ⟨h.length, 0, some 0⟩)) (v := v) (h' := H) rfl rfl g4 (fun x hx => ?_) (by simp [iop, wOp5, iload, F.vV, hrd0]) fun u7 w5 μ5 A6 q6 g5 e5 r7 => ?_
  · simp [wOp5, Op.operands] at hx; subst hx; rw [ev_ne q5 (by decide), k2]; exact (r2'.mono e3).mono e4
  have e45 := e4.trans e5
  have m6 : A6.eval (.tmp 6) = u6 := by rw [ev_ne q6 (by decide), ev_eq q5 (by omega)]
  have m7 : A6.eval (.tmp 7) = u7 := ev_eq q6 (by rw [sz_put q5]; omega)
  have m4 : A6.eval (.tmp 4) = u4 := by rw [ev_ne q6 (by decide), ev_ne q5 (by decide), k4]
  have md : A6.defers = [{ target := .fn (.func D) #[d2, d4], args := #[] }] := by rw [df_put q6, df_put q5, kd]
  clear q5 q6 k1 k2 k4 kd
  refine wpList_cons rfl ?_
  refine oper_sim2 (ρ := fun x => match x with | .tmp 6 => pf | _ => v) hcl g5 (fun x hx => ?_) (r := .call g xs) (by simp [iop, wOp6, hic]) (fun x h3 hd u w6 μ6 g6 e6 _ => ?_) (fun x h3 hd u w6 μ6 g6 e6 ru => ?_) (fun f args hf => ?_)
  · simp [wOp6, Op.operands, Call.operands] at hx
    rcases hx with rfl | rfl
    · rw [m6]; exact r6.mono e5
    · rw [m7]; exact r7
  · rcases hd with hd | ⟨hd, _⟩ | ⟨f, args, hd, hc⟩ <;> cases hd
    simp only [hc] at hr
    obtain ⟨h4, hwr, hr⟩ := Option.bind_eq_some_iff.1 hr
    obtain ⟨v2, hrd, ht⟩ := Option.bind_eq_some_iff.1 hr
    have hst : istore P h3 tI ⟨h.length + 1, 0, some 0⟩ (.int .i64 (-1)) = some h4 := run_leaf_store F.sI rfl hwr
    generalize hq7 : A6.put (wOp6 tV).dst u = A7
    have q7 : A7 = A6.put (some 8) u := hq7.symm
    have n4 : A7.eval (.tmp 4) = u4 := by rw [ev_ne q7 (by decide), m4]
    have nd : A7.defers = [{ target := .fn (.func D) #[d2, d4], args := #[] }] := by rw [df_put q7, md]
    clear q7 hq7
    refine wp_seq (wp_region_list ?_)
    refine one_skip (o := wOp7 tI) (ρ := fun x => match x with | .tmp 4 => .pointer (some ⟨h.length + 1, 0, some 0⟩) | _ => .int .i64 (-1)) (h' := h4) rfl g6 (fun x hx => ?_) (by simp [iop, wOp7, hst]) fun u8 w7 μ7 g7 e7 => ?_
    · simp [wOp7, Op.operands] at hx
      rcases hx with rfl | rfl
      · rw [n4]; exact (hu4.mono e45).mono e6
      · exact .plain _ rfl
    · refine wp_ret ?_
      show Leaves P F.fnR A7.tmps _ A7.defers .returning w7
      rw [nd]
      exact viewLeave_ok F hcl (u' := .returning) e123 hd2 hd4 (by rw [show A7.tmps.getD 4 undef = u4 from n4]; exact hu4) g7 ((e45.trans e6).trans e7) hrd (.plain _ rfl) ht (.inl ⟨rfl, rfl, rfl⟩)
  · rcases hd with ⟨hd, _⟩ | ⟨f, args, hd, hc⟩ <;> cases hd
    simp only [hc] at hr
    obtain ⟨v2, hrd, ht⟩ := Option.bind_eq_some_iff.1 hr
    show Leaves P F.fnR A6.tmps _ A6.defers (.panicking [{ v := u, recovered := false }]) w6
    rw [md]
    exact viewLeave_ok F hcl (u' := .panicking [{ v := u, recovered := true }]) e123 hd2 hd4 (by rw [show A6.tmps.getD 4 undef = u4 from m4]; exact hu4) g6 (e45.trans e6) hrd ru ht (.inr ⟨rfl, rfl⟩)
  · cases hf
    cases hc : cl g xs H with
    | none => simp [hc] at hr
    | some _ => rfl

end
end Go.Ideal
namespace Go.Ideal
open Go.RowKit

mutual
/-- Every place that a value names lies ahead of the k-th object. -/
def inR (k : Nat) : Value → Bool
  | .pointer (some a) => a.spot.isNone || decide (a.block < k)
  | .slice (some a) n c => a.spot.isNone || decide (a.block < k) || (decide (n = 0) && decide (c = 1)) || decide (c = 2)
  | .map (some r) => decide (r < k)
  | .func _ ⟨xs⟩ ⟨cs⟩ => inRL k xs && inRL k cs
  | .iface _ v => inR k v
  | .agg ⟨xs⟩ => inRL k xs
  | .tuple ⟨xs⟩ => inRL k xs
  | _ => true
  termination_by structural x => x
def inRL (k : Nat) : List Value → Bool
  | [] => true
  | x :: xs => inR k x && inRL k xs
  termination_by structural x => x
end

theorem inRL_iff (k : Nat) : ∀ (l : List Value), inRL k l = true ↔ ∀ v ∈ l, inR k v = true
  | [] => by simp [inRL]
  | x :: xs => by simp [inRL, inRL_iff k xs]

def IObj.vals : IObj → List Value
  | .row cs _ _ => cs
  | .map es => es.map (·.2)

section
variable {P : Program} {w0 w : World} {h h' h1 : Heap} {μ μ' μ1 : Mp} {B : Nat}

theorem inR_plain {v : Value} {k : Nat} (hp : plainV v = true) : inR k v = true := by
  cases v <;> simp_all [plainV, inR]
  case pointer a => cases a <;> simp_all [inR]
  case slice a n c => cases a <;> simp_all [inR]
  case map a => cases a <;> simp_all [inR]

theorem relA_lt {a a' : Addr} (ha : RelA B h μ a a') : (a.spot.isNone || decide (a.block < h.length)) = true := by
  unfold RelA at ha
  split at ha
  · rename_i hs; simp [hs]
  · obtain ⟨o, ho, _⟩ := ha
    simp [(List.getElem?_eq_some_iff.1 ho).1]

/-- What is related names only what there is, but for the empty slices. -/
theorem relV_back {v u : Value} {k : Nat} (hv : RelV P B h' μ' v u) (hin : inR k v = true) (hh : ∀ i, i < k → h1[i]? = h'[i]?) (hm : ∀ i, i < k → μ1[i]? = μ'[i]?) : RelV P B h1 μ1 v u := by
  have backA : ∀ {a a' : Addr}, (a.spot.isNone || decide (a.block < k)) = true → RelA B h' μ' a a' → RelA B h1 μ1 a a' := by
    intro a a' hk ha
    unfold RelA at ha ⊢
    split at ha
    · exact ha
    · rename_i g hs
      have hlt : a.block < k := by simpa [hs] using hk
      obtain ⟨o, ho, hc⟩ := ha
      exact ⟨o, by rw [hh _ hlt]; exact ho, by rw [hm _ hlt]; exact hc⟩
  induction hv with
  | plain v hp => exact .plain v hp
  | ptr a a' ha => exact .ptr a a' (backA (by simpa [inR] using hin) ha)
  | grow a a' n cap hg =>
    obtain ⟨g, cs, e, g', h1', h2, h3, h4⟩ := hg
    have hlt : a.block < k := by simpa [inR, h1'] using hin
    refine .grow a a' n cap ⟨g, cs, e, g', h1', h2, by rw [hh _ hlt]; exact h3, ?_⟩
    rcases h4 with h4 | ⟨h4, p, s, hp, h5⟩
    · exact .inl h4
    · exact .inr ⟨h4, p, s, by rw [hm _ hlt]; exact hp, h5⟩
  | unk a a' n cap ha hn => exact .unk a a' n cap (fun hne => backA (by simpa [inR, hne] using hin) (ha hne)) hn
  | exact a a' n k ha hn => exact .exact a a' n k (fun hne => backA (by simpa [inR, hne] using hin) (ha hne)) hn
  | map r es p hr hm' =>
    have hlt : r < k := by simpa [inR] using hin
    exact .map r es p (by rw [hh _ hlt]; exact hr) (by rw [hm _ hlt]; exact hm')
  | func f xs ys cs ds hs _ hs' _ i1 i2 =>
    obtain ⟨xs⟩ := xs; obtain ⟨cs⟩ := cs
    simp only [inR, Bool.and_eq_true, inRL_iff] at hin
    exact .func f _ ys _ ds hs (fun i a b => i1 i a b (hin.1 _ (by simp at a ⊢))) hs' (fun i a b => i2 i a b (hin.2 _ (by simp at a ⊢)))
  | iface t v u _ ih => exact .iface t v u (ih (by simpa [inR] using hin))
  | agg xs ys hs _ ih =>
    obtain ⟨xs⟩ := xs
    simp only [inR, inRL_iff] at hin
    exact .agg _ ys hs fun i a b => ih i a b (hin _ (by simp at a ⊢))
  | tuple xs ys hs _ ih =>
    obtain ⟨xs⟩ := xs
    simp only [inR, inRL_iff] at hin
    exact .tuple _ ys hs fun i a b => ih i a b (hin _ (by simp at a ⊢))

theorem relV_inR {v u : Value} (hv : RelV P B h μ v u) : inR h.length v = true := by
  induction hv with
  | plain v hp => exact inR_plain hp
  | ptr a a' ha => simpa [inR] using relA_lt ha
  | grow a a' n cap hg =>
    obtain ⟨g, cs, e, g', h1', h2, h3, h4⟩ := hg
    simp [inR, (List.getElem?_eq_some_iff.1 h3).1]
  | unk a a' n cap ha hn =>
    by_cases hn0 : n = 0
    · simp [inR, hn0]
    · have := relA_lt (ha hn0)
      simp only [inR, Bool.or_eq_true] at this ⊢
      exact .inl (.inl this)
  | exact a a' n k ha hn =>
    by_cases hn0 : k = 0
    · simp [inR, hn0]
    · have := relA_lt (ha hn0)
      simp only [inR, Bool.or_eq_true] at this ⊢
      exact .inl (.inl this)
  | map r es p hr hm => simp [inR, (List.getElem?_eq_some_iff.1 hr).1]
  | func f xs ys cs ds hs _ hs' _ i1 i2 =>
    obtain ⟨xs⟩ := xs; obtain ⟨cs⟩ := cs
    simp only [inR, Bool.and_eq_true, inRL_iff]
    refine ⟨fun v hv => ?_, fun v hv => ?_⟩
    · obtain ⟨i, hi⟩ := List.mem_iff_getElem?.1 hv
      obtain ⟨hlt, rfl⟩ := List.getElem?_eq_some_iff.1 hi
      exact i1 i (by simpa using hlt) (by rw [← hs]; simpa using hlt)
    · obtain ⟨i, hi⟩ := List.mem_iff_getElem?.1 hv
      obtain ⟨hlt, rfl⟩ := List.getElem?_eq_some_iff.1 hi
      exact i2 i (by simpa using hlt) (by rw [← hs']; simpa using hlt)
  | iface t v u _ ih => simpa [inR] using ih
  | agg xs ys hs _ ih =>
    obtain ⟨xs⟩ := xs
    simp only [inR, inRL_iff]
    intro v hv
    obtain ⟨i, hi⟩ := List.mem_iff_getElem?.1 hv
    obtain ⟨hlt, rfl⟩ := List.getElem?_eq_some_iff.1 hi
    exact ih i (by simpa using hlt) (by rw [← hs]; simpa using hlt)
  | tuple xs ys hs _ ih =>
    obtain ⟨xs⟩ := xs
    simp only [inR, inRL_iff]
    intro v hv
    obtain ⟨i, hi⟩ := List.mem_iff_getElem?.1 hv
    obtain ⟨hlt, rfl⟩ := List.getElem?_eq_some_iff.1 hi
    exact ih i (by simpa using hlt) (by rw [← hs]; simpa using hlt)

mutual
theorem inR_mono {k k' : Nat} (hk : k ≤ k') : ∀ v, inR k v = true → inR k' v = true
  | .pointer none, _ => rfl
  | .pointer (some a), h => by simp [inR] at h ⊢; exact h.imp id fun h => by omega
  | .slice none _ _, _ => rfl
  | .slice (some a) n c, h => by simp [inR] at h ⊢; exact h.imp (Or.imp (Or.imp id fun h => by omega) id) id
  | .map none, _ => rfl
  | .map (some r), h => by simp [inR] at h ⊢; omega
  | .func _ ⟨xs⟩ ⟨cs⟩, h => by
    simp [inR] at h ⊢
    exact ⟨inRL_mono hk xs h.1, inRL_mono hk cs h.2⟩
  | .iface _ v, h => by simp [inR] at h ⊢; exact inR_mono hk v h
  | .agg ⟨xs⟩, h => by simp [inR] at h ⊢; exact inRL_mono hk xs h
  | .tuple ⟨xs⟩, h => by simp [inR] at h ⊢; exact inRL_mono hk xs h
  | .bool _, _ => rfl
  | .int _ _, _ => rfl
  | .float _ _, _ => rfl
  | .complex _ _ _, _ => rfl
  | .string _, _ => rfl
  | .chan _, _ => rfl
  | .nilFunc, _ => rfl
  | .nilIface, _ => rfl
theorem inRL_mono {k k' : Nat} (hk : k ≤ k') : ∀ l, inRL k l = true → inRL k' l = true
  | [], _ => rfl
  | x :: xs, h => by
    simp [inRL] at h ⊢
    exact ⟨inR_mono hk x h.1, inRL_mono hk xs h.2⟩
end

/-- A value that was there ahead of a call. -/
def Old (h : Heap) (args : List Value) (v : Value) : Prop := inR h.length v = true ∨ v ∈ args ∨ ∃ (i : Nat) (o : IObj), h[i]? = some o ∧ v ∈ o.vals

theorem relO_vals {o : IObj} {p : Nat × Nat} (ho : RelO P B h μ w o p) {v : Value} (hv : v ∈ o.vals) : ∃ u, RelV P B h μ v u := by
  cases o with
  | row cs e g =>
    obtain ⟨c, _, _, _, hc⟩ := ho
    obtain ⟨i, hi⟩ := List.mem_iff_getElem?.1 hv
    obtain ⟨u, _, hu⟩ := hc i v hi
    exact ⟨u, hu⟩
  | map es =>
    obtain ⟨ents, clock, _, _, hc⟩ := ho
    simp [IObj.vals] at hv
    obtain ⟨k, hk⟩ := hv
    obtain ⟨i, hi⟩ := List.mem_iff_getElem?.1 hk
    obtain ⟨m, _, _, hu⟩ := hc i _ hi
    exact ⟨_, hu⟩

theorem Old.inR (hw : RelW P w0 h μ w) {args : List Value} {args' : Array Value} (hl : RelL P w0.heap.size h μ args args'.toList) {v : Value} (ho : Old h args v) : Go.Ideal.inR h.length v = true := by
  rcases ho with ho | ho | ⟨i, o, ho, hv⟩
  · exact ho
  · obtain ⟨i, hi⟩ := List.mem_iff_getElem?.1 ho
    have hlt : i < args'.toList.length := by rw [← hl.1]; exact (List.getElem?_eq_some_iff.1 hi).1
    exact relV_inR (hl.2 i v _ hi (List.getElem?_eq_getElem hlt))
  · obtain ⟨p, hp⟩ := hw.map_lt ho
    obtain ⟨u, hu⟩ := relO_vals (hw.obj i o p ho hp) hv
    exact relV_inR hu

def IRet.val : IRet → Value
  | .ret v => v
  | .pan v => v

/-- What lies behind the k-th object may be forgotten, if nothing that stays names it. -/
theorem Does.take {f : FuncId} {args : List Value} {r : IRet} (hd : Does P w0 f args h r h') (k : Nat) (hk : h.length ≤ k)
    (hobj : ∀ (i : Nat) (o : IObj), i < k → h'[i]? = some o → ∀ v ∈ o.vals, inR k v = true ∨ Old h args v) (hr : inR k r.val = true ∨ Old h args r.val) : Does P w0 f args h r (h'.take k) := by
  intro μ w args' hw hl
  refine (hd μ w args' hw hl).mono fun e w' ⟨μ', g1, g2, g3⟩ => ?_
  have hin : ∀ v, (inR k v = true ∨ Old h args v) → inR k v = true := fun v hv => hv.elim id fun ho => inR_mono hk v (ho.inR hw hl)
  have hh : ∀ i, i < k → (h'.take k)[i]? = h'[i]? := fun i hi => by simp [hi]
  have hm : ∀ i, i < k → (μ'.take k)[i]? = μ'[i]? := fun i hi => by simp [hi]
  have hlt : ∀ {i : Nat} {p : Nat × Nat}, (μ'.take k)[i]? = some p → i < k ∧ μ'[i]? = some p := fun {i p} hp => by
    rw [List.getElem?_take] at hp
    split at hp
    · rename_i hi; exact ⟨hi, hp⟩
    · cases hp
  have hlo : ∀ {i : Nat} {p : IObj}, (h'.take k)[i]? = some p → i < k ∧ h'[i]? = some p := fun {i p} hp => by
    rw [List.getElem?_take] at hp
    split at hp
    · rename_i hi; exact ⟨hi, hp⟩
    · cases hp
  refine ⟨μ'.take k, ⟨?_, ?_, ?_, ?_, g1.below⟩, ?_, ?_⟩
  · simp [g1.len]
  · intro i j p q hp hq hpq
    exact g1.inj i j p q (hlt hp).2 (hlt hq).2 hpq
  · intro i p hp
    exact g1.ge i p (hlt hp).2
  · intro i o p ho hp
    have ho' := hlo ho
    have hro := g1.obj i o p ho'.2 (hlt hp).2
    have hvs := hobj i o ho'.1 ho'.2
    cases o with
    | row cs e g =>
      obtain ⟨c, h1, h2, h3, h4⟩ := hro
      refine ⟨c, h1, h2, h3, fun j v hj => ?_⟩
      obtain ⟨u, hu, hv⟩ := h4 j v hj
      exact ⟨u, hu, relV_back hv (hin v (hvs v (List.mem_of_getElem? hj))) hh hm⟩
    | map es =>
      obtain ⟨ents, clock, h1, h2, h3⟩ := hro
      refine ⟨ents, clock, h1, h2, fun j e hj => ?_⟩
      obtain ⟨m, h4, h5, h6⟩ := h3 j e hj
      exact ⟨m, h4, h5, relV_back h6 (hin _ (hvs _ (by simp [IObj.vals]; exact ⟨e.1, List.mem_of_getElem? hj⟩))) hh hm⟩
  · intro i o ho
    obtain ⟨o', ho', h1, h2, h3⟩ := g2 i o ho
    have hi : i < k := Nat.lt_of_lt_of_le (List.getElem?_eq_some_iff.1 ho).1 hk
    exact ⟨o', by rw [hh i hi]; exact ho', h1, h2, fun hg => by rw [hm i hi]; exact h3 hg⟩
  · cases r with
    | ret v =>
      cases e with
      | returned u => exact relV_back g3 (hin v hr) hh hm
      | panicked c => exact g3.elim
      | outgrown => exact g3.elim
    | pan v =>
      cases e with
      | returned u => exact g3.elim
      | panicked c => obtain ⟨u, hc, hv⟩ := g3; exact ⟨u, hc, relV_back hv (hin v hr) hh hm⟩
      | outgrown => exact g3.elim

end
end Go.Ideal
namespace Go.Ideal
open Go.RowKit
section
variable {P : Program} {w0 w : World} {h h' h1 : Heap} {μ μ' μ1 : Mp} {B : Nat}

/-- The told functions, as an answer to calls. -/
def tcl (T : Told) : Cl := fun f args h => match T.get f with
  | some k => k args h
  | none => none

theorem tcl_sim {T : Told} (hT : ToldOK P w0 T) : ClSim P w0 (tcl T) := by
  refine clSim_does.2 fun f args h r h' hr => ?_
  unfold tcl at hr
  split at hr
  · rename_i k hg
    exact hT (f, k) (Told.get_mem hg) args h r h' hr
  · cases hr

def endRun (P : Program) (w0 : World) (fn : Func) : Option (IExit × Array Value × Heap) → Option (IRet × Heap)
  | some (.normal, a, h') => (iresultL P w0 h' a fn.results.toList).map fun vs => (.ret (one vs), h')
  | some (.ret, a, h') => (iresultL P w0 h' a fn.results.toList).map fun vs => (.ret (one vs), h')
  | some (.panic v, _, h') => some (.pan v, h')
  | _ => none

/-- A function's body is run. -/
def run1 (P : Program) (w0 : World) (cl : Cl) (n : Nat) (f : FuncId) (args : List Value) (h : Heap) : Option (IRet × Heap) :=
  match P.funcs[f]? with
  | none => none
  | some fn => match fn.body with
    | none => none
    | some body =>
      if args.length ≤ fn.ntmps then endRun P w0 fn (exec P w0 cl n body (args.toArray ++ Array.replicate (fn.ntmps - args.length) undef) h) else none

theorem run1_does (hm : P.follows .mixedOrders = true) {cl : Cl} (hcl : ClSim P w0 cl) {n : Nat} {f : FuncId} {args : List Value} {r : IRet} (hr : run1 P w0 cl n f args h = some (r, h')) : Does P w0 f args h r h' := by
  intro μ w args' hw hl
  unfold run1 at hr
  cases hfn : P.funcs[f]? with
  | none => simp [hfn] at hr
  | some fn =>
    cases hbd : fn.body with
    | none => simp [hfn, hbd] at hr
    | some body =>
      simp only [hfn, hbd] at hr
      have hlen : args.length = args'.size := by simpa using hl.1
      by_cases hsz : args.length ≤ fn.ntmps
      case neg => rw [if_neg hsz] at hr; cases hr
      rw [if_pos hsz] at hr
      have hund : RelV P w0.heap.size h μ undef undef := RelL.tuple (by simpa using RelL.nil)
      have hl0 : RelL P w0.heap.size h μ (args.toArray ++ Array.replicate (fn.ntmps - args.length) undef).toList (args' ++ Array.replicate (fn.ntmps - args'.size) undef).toList := by
        rw [← hlen]
        simp only [Array.toList_append, Array.toList_replicate]
        refine hl.append ⟨rfl, fun i v u hv hu => ?_⟩
        rw [List.getElem?_replicate] at hv hu
        split at hv
        · cases hv; simp_all
        · cases hv
      have hres : ∀ (a : Array Value) (h2 : Heap) (vs : List Value), iresultL P w0 h2 a fn.results.toList = some vs → ∀ (at' : Act) (μ' : Mp) (w' : World), RelW P w0 h2 μ' w' → RelL P w0.heap.size h2 μ' a.toList at'.tmps.toList →
          ∃ u, (results fn at'.tmps).run P w' = .ok u w' ∧ RelV P w0.heap.size h2 μ' (one vs) u := by
        intro a h2 vs hvs at' μ' w' hw' hl'
        obtain ⟨us, hus, hlu⟩ := iresultL_sim hw' hl' _ _ hvs
        refine ⟨_, ?_, one_sim hlu⟩
        rw [results_eq, Array.mapM_eq_mapM_toList]
        simp [hus]
      cases hex : exec P w0 cl n body (args.toArray ++ Array.replicate (fn.ntmps - args.length) undef) h with
      | none => simp [hex, endRun] at hr
      | some res =>
        obtain ⟨e, a, h1⟩ := res
        rw [hex] at hr
        refine calls_of_wp hfn hbd (exec_sim hm hcl n body _ h e a h1 hex μ w _ _ rfl hw hl0 fun at2 μ2 w2 hd2 hw2 he2 => ?_)
        cases e with
        | normal =>
          intro hl2
          simp only [endRun] at hr
          obtain ⟨vs, hvs, hr⟩ := Option.map_eq_some_iff.1 hr
          cases hr
          obtain ⟨u, hu, hv⟩ := hres a h' vs hvs at2 μ2 w2 hw2 hl2
          exact ⟨hd2, u, hu, μ2, hw2, he2, hv⟩
        | ret =>
          intro hl2
          simp only [endRun] at hr
          obtain ⟨vs, hvs, hr⟩ := Option.map_eq_some_iff.1 hr
          cases hr
          obtain ⟨u, hu, hv⟩ := hres a h' vs hvs at2 μ2 w2 hw2 hl2
          exact ⟨hd2, u, hu, μ2, hw2, he2, hv⟩
        | panic v =>
          intro u hv
          simp only [endRun, Option.some.injEq, Prod.mk.injEq] at hr
          obtain ⟨rfl, rfl⟩ := hr
          exact ⟨hd2, μ2, hw2, he2, u, rfl, hv⟩
        | exit id => simp [endRun] at hr

/-- A call that only lays new objects behind the old ones, and answers without naming one: as if it had laid none. -/
theorem Does.drop {f : FuncId} {args : List Value} {r : IRet} {G : Heap} (hd : Does P w0 f args h r (h ++ G)) (hr : inR h.length r.val = true ∨ Old h args r.val) : Does P w0 f args h r h := by
  have := hd.take h.length (Nat.le_refl _) (fun i o hi ho v hv => .inr (.inr (.inr ⟨i, o, by rwa [List.getElem?_append_left hi] at ho, hv⟩))) hr
  rwa [List.take_left] at this

/-- The same, where old objects have changed: they name what was there. -/
theorem Does.dropTo {f : FuncId} {args : List Value} {r : IRet} {h2 G : Heap} (hd : Does P w0 f args h r (h2 ++ G)) (hk : h.length ≤ h2.length)
    (hobj : ∀ (i : Nat) (o : IObj), h2[i]? = some o → ∀ v ∈ o.vals, inR h2.length v = true ∨ Old h args v) (hr : inR h2.length r.val = true ∨ Old h args r.val) : Does P w0 f args h r h2 := by
  have := hd.take h2.length hk (fun i o hi ho v hv => hobj i o (by rwa [List.getElem?_append_left hi] at ho) v hv) hr
  rwa [List.take_left] at this

theorem inR_flat (k : Nat) : ∀ v, flatV v = true → inR k v = true := by
  have key : (∀ v, flatV v = true → inR k v = true) ∧ (∀ l, flatL l = true → inRL k l = true) := by
    constructor
    · intro v hv
      exact relV_inR (P := default) (B := 0) (h := []) (μ := []) (flat_rel v hv) |> inR_mono (Nat.zero_le k) v
    · intro l hl
      rw [inRL_iff]
      intro v hv
      obtain ⟨i, hi⟩ := List.mem_iff_getElem?.1 hv
      exact relV_inR (P := default) (B := 0) (h := []) (μ := []) ((flatL_rel l hl).2 i v v hi hi) |> inR_mono (Nat.zero_le k) v
  exact key.1

end
end Go.Ideal
namespace Go.Ideal
open Go.RowKit
section
variable {P : Program} {w0 : World} {h : Heap}

def fAddr (off : Nat) : Value → Option Value
  | .pointer (some a) => some (.pointer (some (ush a off)))
  | _ => none

def chkFA (P : Program) (T k off : Nat) : Bool :=
  match P.underlying T with
  | some (.struct fs) => match fs[k]? with
    | some f => f.offset == off && (match tsize P f.type with | some n => n != 0 | none => false)
    | none => false
  | _ => false

theorem ifieldAddr_of {T k off : Nat} (hc : chkFA P T k off = true) (v : Value) : ifieldAddr P T v k = fAddr off v := by
  unfold chkFA at hc
  unfold ifieldAddr fAddr
  split at hc
  · rename_i fs hu
    rw [hu]
    cases hf : fs[k]? with
    | none => simp [hf] at hc
    | some f =>
      simp only [hf, Bool.and_eq_true, beq_iff_eq] at hc
      obtain ⟨h1, h2⟩ := hc
      cases hs : tsize P f.type with
      | none => simp [hs] at h2
      | some n =>
        simp [hs] at h2
        subst h1
        cases v with
        | pointer a => cases a <;> simp [hf, hs, h2]
        | _ => rfl
  · cases hc

@[simp] theorem fAddr_ptr (off : Nat) (a : Addr) : fAddr off (.pointer (some a)) = some (.pointer (some (ush a off))) := rfl

def fGet (b : Bool) (off n : Nat) : Value → Option Value
  | .agg cs => if b then some (.agg (cs.extract off (off + n))) else cs[off]?
  | _ => none

def chkFD (P : Program) (T k off n : Nat) (b : Bool) : Bool :=
  match P.underlying T with
  | some (.struct fs) => match fs[k]? with
    | some f => f.offset == off && tsize P f.type == some n && aggT P f.type == some b
    | none => false
  | _ => false

theorem ifield_of {T k off n : Nat} {b : Bool} (hc : chkFD P T k off n b = true) (v : Value) : ifield P T v k = fGet b off n v := by
  unfold chkFD at hc
  unfold ifield fGet
  split at hc
  · rename_i fs hu
    rw [hu]
    cases hf : fs[k]? with
    | none => simp [hf] at hc
    | some f =>
      simp only [hf, Bool.and_eq_true, beq_iff_eq] at hc
      obtain ⟨⟨h1, h2⟩, h3⟩ := hc
      subst h1
      cases v with
      | agg cs => cases b <;> simp [hf, ipart, h2, h3]
      | _ => rfl
  · cases hc

@[simp] theorem fGet_agg (b : Bool) (off n : Nat) (cs : Array Value) : fGet b off n (.agg cs) = if b then some (.agg (cs.extract off (off + n))) else cs[off]? := rfl

theorem iload_leaf {T : TypeId} (ha : aggT P T = some false) (a : Addr) : iload P w0 h T a = rd w0 h a := by simp [iload, ha]
theorem iload_agg {T : TypeId} {n : Nat} (ha : aggT P T = some true) (hs : tsize P T = some n) (a : Addr) : iload P w0 h T a = (rdN w0 h a n).map fun l => .agg l.toArray := by simp [iload, ha, hs]

def stN (n : Nat) (h : Heap) (a : Addr) : Value → Option Heap
  | .agg cs => if cs.size = n then wrN h a cs.toList else none
  | v => if n = 1 then wr1 h a v else none

theorem istore_of {T : TypeId} {n : Nat} (hs : tsize P T = some n) (a : Addr) (v : Value) : istore P h T a v = stN n h a v := by
  unfold istore stN
  cases v <;> simp [hs]

def buildV (z : List Value) (place : Nat → Option (Nat × Nat)) (parts : List (Nat × Value)) : Option Value :=
  (ifill place z parts).bind fun cs => if cs.all leaf then some (.agg cs.toArray) else none

theorem ibuild_struct {T : TypeId} {fs : Array Field} {z : List Value} {pl : List (Nat × Nat)} (hz : izero P T = some z) (hu : P.underlying T = some (.struct fs)) (hp : iplaces P fs.toList = some pl) (parts : List (Nat × Value)) :
    ibuild P T parts = buildV z (fun i => pl[i]?) parts := by simp [ibuild, hz, hu, hp, buildV]
theorem ibuild_array {T e : TypeId} {len n : Nat} {z : List Value} (hz : izero P T = some z) (hu : P.underlying T = some (.array len e)) (hn : tsize P e = some n) (parts : List (Nat × Value)) :
    ibuild P T parts = buildV z (fun i => some (i * n, n)) parts := by simp [ibuild, hz, hu, hn, buildV]

def bsV (z : List Value) (e : TypeId) (h : Heap) (len : Nat) (parts : List (Nat × Value)) : Option IRes :=
  if z.length = 0 ∨ len * z.length > 16777216 then none else
  (ifill (fun i => some (i * z.length, z.length)) (repl len z) parts).bind fun cs => if cs.all leaf then some (irow h e cs len) else none

theorem ibuildSlice_of {T e : TypeId} {z : List Value} (hz : izero P e = some z) (hu : P.underlying T = some (.slice e)) (len : Nat) (parts : List (Nat × Value)) : ibuildSlice P h T len parts = bsV z e h len parts := by
  simp [ibuildSlice, hz, hu, bsV]

def ixS (n : Nat) : Value → Value → Option Value
  | .slice (some a) len _, .int _ j => if 0 ≤ j ∧ j < len then some (.pointer (some (ush a (j.toNat * n)))) else none
  | _, _ => none
def ixA (len n : Nat) : Value → Value → Option Value
  | .pointer (some a), .int _ j => if 0 ≤ j ∧ j < len then some (.pointer (some (ush a (j.toNat * n)))) else none
  | _, _ => none

theorem iindexAddr_slice {T e : TypeId} {n : Nat} (hu : P.underlying T = some (.slice e)) (hn : tsize P e = some n) (x i : Value) : iindexAddr P T x i = ixS n x i := by
  unfold iindexAddr ixS
  rw [hu]
  cases x with
  | slice a len c =>
    cases a with
    | none => rfl
    | some a => cases i <;> simp [hn]
  | _ => cases i <;> rfl
theorem iindexAddr_array {T e : TypeId} {len n : Nat} (hu : P.underlying T = some (.array len e)) (hn : tsize P e = some n) (x i : Value) : iindexAddr P T x i = ixA len n x i := by
  unfold iindexAddr ixA
  rw [hu]
  cases x with
  | pointer a =>
    cases a with
    | none => cases i <;> rfl
    | some a => cases i <;> simp [hn]
  | _ => cases i <;> rfl

@[simp] theorem ixS_at (n : Nat) (a : Addr) (len c : Nat) (k : IntKind) (j : Int) : ixS n (.slice (some a) len c) (.int k j) = if 0 ≤ j ∧ j < len then some (.pointer (some (ush a (j.toNat * n)))) else none := rfl
@[simp] theorem ixA_at (len n : Nat) (a : Addr) (k : IntKind) (j : Int) : ixA len n (.pointer (some a)) (.int k j) = if 0 ≤ j ∧ j < len then some (.pointer (some (ush a (j.toNat * n)))) else none := rfl

theorem ieq_ptr_nil {T e : TypeId} (hu : P.underlying T = some (.pointer e)) (a : Addr) : ieq P 100 T (.pointer (some a)) (.pointer none) = some false := by
  show ieq P (99 + 1) T _ _ = _
  simp [ieq, hu]
theorem ieq_nil_ptr {T e : TypeId} (hu : P.underlying T = some (.pointer e)) (b : Option Addr) : ieq P 100 T (.pointer none) (.pointer b) = some b.isNone := by
  show ieq P (99 + 1) T _ _ = _
  simp [ieq, hu]
theorem ieq_func_nil {T : TypeId} {x y : Array TypeId} {z : Bool} (hu : P.underlying T = some (.func x y z)) (f : Fn) (a b : Array Value) : ieq P 100 T (.func f a b) .nilFunc = some false := by
  show ieq P (99 + 1) T _ _ = _
  simp [ieq, hu]
theorem ieq_nil_func {T : TypeId} {x y : Array TypeId} {z : Bool} (hu : P.underlying T = some (.func x y z)) : ieq P 100 T .nilFunc .nilFunc = some true := by
  show ieq P (99 + 1) T _ _ = _
  simp [ieq, hu]
theorem ieq_bool {T : TypeId} (hu : P.underlying T = some .bool) (a b : Bool) : ieq P 100 T (.bool a) (.bool b) = some (a == b) := by
  show ieq P (99 + 1) T _ _ = _
  simp [ieq, hu]

def lenS : Value → Option Value
  | .slice _ n _ => some (.int .i64 n)
  | _ => none
def lenStr : Value → Option Value
  | .string s => some (.int .i64 s.size)
  | _ => none
theorem ilenB_slice {T e : TypeId} (hu : P.underlying T = some (.slice e)) (x : Value) : ilenB P T x = lenS x := by
  unfold ilenB lenS
  rw [hu]
  cases x <;> rfl
theorem ilenB_string {T : TypeId} (hu : P.underlying T = some .string) (x : Value) : ilenB P T x = lenStr x := by
  unfold ilenB lenStr
  rw [hu]
  cases x <;> rfl
@[simp] theorem lenS_slice (a : Option Addr) (n c : Nat) : lenS (.slice a n c) = some (.int .i64 n) := rfl
@[simp] theorem lenStr_string (s : ByteArray) : lenStr (.string s) = some (.int .i64 s.size) := rfl

theorem iconvert_int {s d : TypeId} {x : TypeDesc} {k : IntKind} (h1 : P.underlying s = some x) (h2 : P.underlying d = some (.int k)) (k0 : IntKind) (n : Int) : iconvert P s d (.int k0 n) = some (.int k (k.wrap n)) := by
  simp [iconvert, h1, h2]

theorem icall_func {g : FuncId} (hc : icallable P g = true) (first captured : Array Value) (args : List Value) : icall P (.func (.func g) first captured) args = some (.call g (first.toList ++ args ++ captured.toList)) := by
  simp [icall, hc]

end
end Go.Ideal
namespace Go.Ideal
@[simp] theorem vcells_agg (cs : Array Value) : vcells (.agg cs) = cs.toList := rfl
@[simp] theorem vcells_int (k : IntKind) (n : Int) : vcells (.int k n) = [.int k n] := rfl
@[simp] theorem vcells_bool (b : Bool) : vcells (.bool b) = [.bool b] := rfl
@[simp] theorem vcells_string (b : ByteArray) : vcells (.string b) = [.string b] := rfl
@[simp] theorem vcells_ptr (a : Option Addr) : vcells (.pointer a) = [.pointer a] := rfl
@[simp] theorem vcells_slice (a : Option Addr) (n c : Nat) : vcells (.slice a n c) = [.slice a n c] := rfl
@[simp] theorem vcells_map (a : Option Nat) : vcells (.map a) = [.map a] := rfl
@[simp] theorem vcells_func (f : Fn) (a b : Array Value) : vcells (.func f a b) = [.func f a b] := rfl
@[simp] theorem vcells_nilFunc : vcells .nilFunc = [.nilFunc] := rfl
@[simp] theorem vcells_nilIface : vcells .nilIface = [.nilIface] := rfl
@[simp] theorem vcells_iface (t : TypeId) (v : Value) : vcells (.iface t v) = [.iface t v] := rfl
@[simp] theorem leaf_agg (cs : Array Value) : leaf (.agg cs) = false := rfl
@[simp] theorem leaf_tuple (cs : Array Value) : leaf (.tuple cs) = false := rfl
@[simp] theorem leaf_int (k : IntKind) (n : Int) : leaf (.int k n) = true := rfl
@[simp] theorem leaf_bool (b : Bool) : leaf (.bool b) = true := rfl
@[simp] theorem leaf_string (b : ByteArray) : leaf (.string b) = true := rfl
@[simp] theorem leaf_ptr (a : Option Addr) : leaf (.pointer a) = true := rfl
@[simp] theorem leaf_slice (a : Option Addr) (n c : Nat) : leaf (.slice a n c) = true := rfl
@[simp] theorem leaf_map (a : Option Nat) : leaf (.map a) = true := rfl
@[simp] theorem leaf_func (f : Fn) (a b : Array Value) : leaf (.func f a b) = true := rfl
@[simp] theorem leaf_nilFunc : leaf .nilFunc = true := rfl
@[simp] theorem leaf_nilIface : leaf .nilIface = true := rfl
@[simp] theorem leaf_iface (t : TypeId) (v : Value) : leaf (.iface t v) = true := rfl
@[simp] theorem ush_mk (b o : Nat) (s : Option Nat) (n : Nat) : ush ⟨b, o, s⟩ n = ⟨b, o + n, s⟩ := rfl
@[simp] theorem ush_zero (a : Addr) : ush a 0 = a := rfl
@[simp] theorem ush_block (a : Addr) (n : Nat) : (ush a n).block = a.block := rfl
@[simp] theorem ush_off (a : Addr) (n : Nat) : (ush a n).off = a.off + n := rfl
@[simp] theorem ush_spot (a : Addr) (n : Nat) : (ush a n).spot = a.spot := rfl
@[simp] theorem ush_ush (a : Addr) (n m : Nat) : ush (ush a n) m = ush a (n + m) := by simp [ush, Nat.add_assoc]
end Go.Ideal
namespace Go.Ideal

def ints (l : List Int) : List Value := l.map (Value.int .i64)
def iagg (l : List Int) : Value := .agg (ints l).toArray

def ints? : List Value → Option (List Int)
  | [] => some []
  | .int .i64 n :: r => (ints? r).map (n :: ·)
  | _ => none
def iagg? : Value → Option (List Int)
  | .agg cs => ints? cs.toList
  | _ => none

@[simp] theorem ints?_ints : ∀ l, ints? (ints l) = some l
  | [] => rfl
  | x :: xs => by simp [ints, ints?]; exact ints?_ints xs
@[simp] theorem iagg?_iagg (l : List Int) : iagg? (iagg l) = some l := by simp [iagg?, iagg]

theorem ints?_eq : ∀ (l : List Value) (k : List Int), ints? l = some k → l = ints k
  | [], k, h => by simp [ints?] at h; subst h; rfl
  | v :: r, k, h => by
    cases v with
    | int kd n =>
      cases kd with
      | i64 =>
        simp only [ints?] at h
        obtain ⟨k', hk, rfl⟩ := Option.map_eq_some_iff.1 h
        rw [ints?_eq r k' hk]; rfl
      | _ => simp [ints?] at h
    | _ => simp [ints?] at h
theorem iagg?_eq {v : Value} {k : List Int} (h : iagg? v = some k) : v = iagg k := by
  unfold iagg? at h
  split at h
  · rename_i cs
    have := ints?_eq _ _ h
    unfold iagg
    rw [← this]
  · cases h

@[simp] theorem ints_leaf (l : List Int) : (ints l).all leaf = true := by simp [ints]
@[simp] theorem ints_length (l : List Int) : (ints l).length = l.length := by simp [ints]
@[simp] theorem iagg_flat (l : List Int) : flatV (iagg l) = true := by
  have : ∀ l, flatL (ints l) = true := by
    intro l
    induction l with
    | nil => rfl
    | cons x xs ih => simpa [ints, flatL, flatV, plainV] using ih
  simpa [iagg, flatV] using this l

@[simp] theorem getElem_ints (l : List Int) (i : Nat) (h : i < (ints l).length) : (ints l)[i] = .int .i64 (l[i]'(by simpa using h)) := by simp [ints]
@[simp] theorem getElem?_ints (l : List Int) (i : Nat) : (ints l)[i]? = (l[i]?).map (Value.int .i64) := by simp [ints]
@[simp] theorem set_ints (l : List Int) (i : Nat) (n : Int) : (ints l).set i (.int .i64 n) = ints (l.set i n) := by simp [ints]
theorem take_ints (l : List Int) (i : Nat) : (ints l).take i = ints (l.take i) := by simp [ints]
theorem drop_ints (l : List Int) (i : Nat) : (ints l).drop i = ints (l.drop i) := by simp [ints]

end Go.Ideal
namespace Go.Ideal
section
variable {P : Program} {w0 : World} {h : Heap} {cl : Cl} {ops : Array Oper}

theorem itrace_irun : ∀ (l : List Oper) (i : Nat) (a : Array Value) (h : Heap), irun P w0 cl ops l a h = (itrace P w0 cl ops i l a h).map fun x => (x.1, x.2.1, x.2.2.1)
  | [], i, a, h => rfl
  | o :: l, i, a, h => by
    simp only [irun, itrace]
    cases istep P w0 cl ops o a h with
    | none => rfl
    | some st =>
      cases st with
      | go a' h' =>
        simp only
        rw [itrace_irun l (i + 1) a' h']
        cases itrace P w0 cl ops (i + 1) l a' h' <;> rfl
      | pan v h' => rfl

def idrawX := @idraw

theorem idraw_eq (hs : (drawOk ops.toList && backOk ops.toList) = true) (ho : openPairs ops.toList = []) (a : Array Value) :
    idraw P w0 cl ops a h = (match irun P w0 cl ops ops.toList a h with
      | some (.normal, a', h') => some (.normal, a', h')
      | _ => idrawX P w0 cl ops a h) := by
  have hx : idrawX P w0 cl ops a h = idraw P w0 cl ops a h := rfl
  rw [hx, itrace_irun ops.toList 0 a h]
  cases ht : itrace P w0 cl ops 0 ops.toList a h with
  | none => rfl
  | some x =>
    obtain ⟨e, a', h', tr⟩ := x
    cases e with
    | normal => simp [idraw, hs, ht, ho]
    | _ => rfl

end
end Go.Ideal
