/- Code and calls, related. -/
import Derived.Test.YtlifcjggdandnaaE12
import Derived.LoopN
import Derived.Scope
import Derived.Laws.ResultCell
namespace Go.Ideal
open Go.RowKit
section
variable {P : Program} {w0 w : World} {h h' h2 : Heap} {μ μ' μ2 : Mp} {B : Nat}

theorem iter_sim {cl : Cl} {body : Array Value → Heap → Option (IExit × Array Value × Heap)} {c : Code}
    (hbody : ∀ (a : Array Value) (h : Heap) (e : IExit) (a' : Array Value) (h' : Heap), body a h = some (e, a', h') → ∀ (μ : Mp) (w : World) (at' : Act) (Q : Exit → Act → World → Prop), at'.defers = [] → RelW P w0 h μ w →
      RelL P w0.heap.size h μ a.toList at'.tmps.toList → Fin P w0 h μ e a' h' Q → c.wp P Q at' w) (hcl : ClSim P w0 cl) :
    ∀ (n : Nat) (a : Array Value) (h : Heap) (e : IExit) (a' : Array Value) (h' : Heap), iter body n a h = some (e, a', h') → ∀ (μ : Mp) (w : World) (at' : Act) (Q : Exit → Act → World → Prop), at'.defers = [] → RelW P w0 h μ w →
      RelL P w0.heap.size h μ a.toList at'.tmps.toList → Fin P w0 h μ e a' h' Q → Code.rounds P c Q n at' w
  | 0, a, h, e, a', h', hr, _, _, _, _, _, _, _, _ => by simp [iter] at hr
  | n + 1, a, h, e, a', h', hr, μ, w, at', Q, hd, hw, hl, hf => by
    rw [rounds_succ]
    simp only [iter] at hr
    cases hb : body a h with
    | none => simp [hb] at hr
    | some res =>
      obtain ⟨e1, a1, h1⟩ := res
      refine hbody a h e1 a1 h1 hb μ w at' _ hd hw hl fun at2 μ2 w2 hd2 hw2 he2 => ?_
      cases e1 with
      | normal =>
        simp only [hb] at hr
        intro hl2
        exact iter_sim hbody hcl n a1 h1 e a' h' hr μ2 w2 at2 Q hd2 hw2 hl2 (hf.mono he2)
      | exit id => simp [hb] at hr; obtain ⟨rfl, rfl, rfl⟩ := hr; exact fun hl2 => hf at2 μ2 w2 hd2 hw2 he2 hl2
      | ret => simp [hb] at hr; obtain ⟨rfl, rfl, rfl⟩ := hr; exact fun hl2 => hf at2 μ2 w2 hd2 hw2 he2 hl2
      | panic v => simp [hb] at hr; obtain ⟨rfl, rfl, rfl⟩ := hr; exact fun u hl2 => hf at2 μ2 w2 hd2 hw2 he2 u hl2

theorem exec_sim (hm : P.follows .mixedOrders = true) {cl : Cl} (hcl : ClSim P w0 cl) (n : Nat) : ∀ (c : Code) (a : Array Value) (h : Heap) (e : IExit) (a' : Array Value) (h' : Heap), exec P w0 cl n c a h = some (e, a', h') →
    ∀ (μ : Mp) (w : World) (at' : Act) (Q : Exit → Act → World → Prop), at'.defers = [] → RelW P w0 h μ w → RelL P w0.heap.size h μ a.toList at'.tmps.toList → Fin P w0 h μ e a' h' Q → c.wp P Q at' w := by
  intro c
  induction c with
  | skip =>
    intro a h e a' h' hr μ w at' Q hd hw hl hf
    simp [exec] at hr
    obtain ⟨rfl, rfl, rfl⟩ := hr
    exact wp_skip (hf at' μ w hd hw (Ext.refl _ _) hl)
  | region id ops draw =>
    intro a h e a' h' hr μ w at' Q hd hw hl hf
    cases draw with
    | false => exact wp_region_list (irun_sim hcl ops ops.toList a h e a' h' (by simpa [exec] using hr) μ w at' Q hd hw hl hf)
    | true => exact idraw_sim hm hcl (by simpa [exec] using hr) hd hw hl hf
  | seq x y ihx ihy =>
    intro a h e a' h' hr μ w at' Q hd hw hl hf
    simp only [exec] at hr
    cases hb : exec P w0 cl n x a h with
    | none => simp [hb] at hr
    | some res =>
      obtain ⟨e1, a1, h1⟩ := res
      refine wp_seq (ihx a h e1 a1 h1 hb μ w at' _ hd hw hl fun at2 μ2 w2 hd2 hw2 he2 => ?_)
      cases e1 with
      | normal =>
        simp only [hb] at hr
        intro hl2
        exact ihy a1 h1 e a' h' hr μ2 w2 at2 Q hd2 hw2 hl2 (hf.mono he2)
      | exit id => simp [hb] at hr; obtain ⟨rfl, rfl, rfl⟩ := hr; exact fun hl2 => hf at2 μ2 w2 hd2 hw2 he2 hl2
      | ret => simp [hb] at hr; obtain ⟨rfl, rfl, rfl⟩ := hr; exact fun hl2 => hf at2 μ2 w2 hd2 hw2 he2 hl2
      | panic v => simp [hb] at hr; obtain ⟨rfl, rfl, rfl⟩ := hr; exact fun u hl2 => hf at2 μ2 w2 hd2 hw2 he2 u hl2
  | cond c x y ihx ihy =>
    intro a h e a' h' hr μ w at' Q hd hw hl hf
    simp only [exec] at hr
    by_cases hc : constOk c = true
    case neg => rw [if_pos hc] at hr; cases hr
    rw [if_neg (by simpa using hc)] at hr
    split at hr
    case h_2 => cases hr
    rename_i t ht
    have hev := ev_sim (at' := at') hl hc
    rw [ht] at hev
    refine wp_cond (t := t) hev.bool_inv ?_
    cases t with
    | true => exact ihx a h e a' h' (by simpa using hr) μ w at' Q hd hw hl hf
    | false => exact ihy a h e a' h' (by simpa using hr) μ w at' Q hd hw hl hf
  | block id body ih =>
    intro a h e a' h' hr μ w at' Q hd hw hl hf
    simp only [exec] at hr
    cases hb : exec P w0 cl n body a h with
    | none => simp [hb] at hr
    | some res =>
      obtain ⟨e1, a1, h1⟩ := res
      refine wp_block (ih a h e1 a1 h1 hb μ w at' _ hd hw hl fun at2 μ2 w2 hd2 hw2 he2 => ?_)
      cases e1 with
      | normal => simp [hb] at hr; obtain ⟨rfl, rfl, rfl⟩ := hr; exact fun hl2 => hf at2 μ2 w2 hd2 hw2 he2 hl2
      | exit id' =>
        simp only [hb] at hr
        intro hl2
        show Exit.inBlock id Q (.exit id') at2 w2
        unfold Exit.inBlock
        by_cases hid : id' = id
        · rw [if_pos hid] at hr; cases hr; show (if id' = id then _ else _); rw [if_pos hid]; exact hf at2 μ2 w2 hd2 hw2 he2 hl2
        · rw [if_neg hid] at hr; cases hr; show (if id' = id then _ else _); rw [if_neg hid]; exact hf at2 μ2 w2 hd2 hw2 he2 hl2
      | ret => simp [hb] at hr; obtain ⟨rfl, rfl, rfl⟩ := hr; exact fun hl2 => hf at2 μ2 w2 hd2 hw2 he2 hl2
      | panic v => simp [hb] at hr; obtain ⟨rfl, rfl, rfl⟩ := hr; exact fun u hl2 => hf at2 μ2 w2 hd2 hw2 he2 u hl2
  | loop body ih =>
    intro a h e a' h' hr μ w at' Q hd hw hl hf
    simp only [exec] at hr
    exact wp_loop_rounds n (iter_sim (body := exec P w0 cl n body) (c := body) ih hcl n a h e a' h' hr μ w at' Q hd hw hl hf)
  | exit id =>
    intro a h e a' h' hr μ w at' Q hd hw hl hf
    simp [exec] at hr
    obtain ⟨rfl, rfl, rfl⟩ := hr
    exact wp_exit (hf at' μ w hd hw (Ext.refl _ _) hl)
  | ret =>
    intro a h e a' h' hr μ w at' Q hd hw hl hf
    simp [exec] at hr
    obtain ⟨rfl, rfl, rfl⟩ := hr
    exact wp_ret (hf at' μ w hd hw (Ext.refl _ _) hl)
  | label l =>
    intro a h e a' h' hr μ w at' Q hd hw hl hf
    simp [exec] at hr
    obtain ⟨rfl, rfl, rfl⟩ := hr
    exact wp_label (hf at' μ w hd hw (Ext.refl _ _) hl)
  | scope c ih =>
    intro a h e a' h' hr μ w at' Q hd hw hl hf
    simp only [exec] at hr
    refine wp_scope_straight (ih a h e a' h' hr μ w at' _ hd hw hl fun at2 μ2 w2 hd2 hw2 he2 => ?_)
    have := hf at2 μ2 w2 hd2 hw2 he2
    cases e <;> exact this
  | _ => intro a h e a' h' hr; simp [exec] at hr

def resSem (b : Array Value) : ResultVar → Sem Value
  | .tmp t => pure (b.getD t undef)
  | .cell a t => do loadVar t (← asAddr (b.getD a undef))

theorem results_eq (fn : Func) (b : Array Value) : results fn b = (do
    let vs ← fn.results.mapM (resSem b)
    pure (if h : vs.size = 1 then vs[0] else .tuple vs)) := by
  unfold results
  have : resSem b = (fun x => match x with | .tmp t => pure (b.getD t undef) | .cell a t => (do loadVar t (← asAddr (b.getD a undef)) : Sem Value)) := by
    funext x
    cases x <;> rfl
  rw [this]
  rfl

theorem iresult_sim (hw : RelW P w0 h μ w) {a : Array Value} {b : Array Value} (hl : RelL P w0.heap.size h μ a.toList b.toList) {r : ResultVar} {v : Value} (hr : iresult P w0 h a r = some v) :
    ∃ u, (resSem b r).run P w = .ok u w ∧ RelV P w0.heap.size h μ v u := by
  cases r with
  | tmp t =>
    simp only [iresult] at hr
    cases hr
    exact ⟨_, rfl, relL_get hl t⟩
  | cell x t =>
    simp only [iresult] at hr
    have hx := relL_get hl x
    split at hr
    · rename_i ad had
      rw [had] at hx
      obtain ⟨ad', hb', hra⟩ := hx.ptr_inv
      obtain ⟨u, hu, hru⟩ := iload_sim hw hra hr
      refine ⟨u, ?_, hru⟩
      simp only [resSem, hb']
      simpa [asAddr] using hu
    · cases hr

/-- The variables that hold what a function answers. -/
theorem iresultL_sim (hw : RelW P w0 h μ w) {a : Array Value} {b : Array Value} (hl : RelL P w0.heap.size h μ a.toList b.toList) : ∀ (rs : List ResultVar) (vs : List Value), iresultL P w0 h a rs = some vs →
    ∃ us, (rs.mapM (resSem b)).run P w = .ok us w ∧ RelL P w0.heap.size h μ vs us
  | [], vs, hr => by
    simp [iresultL] at hr
    subst hr
    exact ⟨[], rfl, RelL.nil⟩
  | r :: rs, vs, hr => by
    simp only [iresultL] at hr
    cases h1 : iresult P w0 h a r with
    | none => simp [h1] at hr
    | some v =>
      cases h2 : iresultL P w0 h a rs with
      | none => simp [h1, h2] at hr
      | some vs2 =>
        simp [h1, h2] at hr
        subst hr
        obtain ⟨us, hus, hlu⟩ := iresultL_sim hw hl rs vs2 h2
        obtain ⟨u, hu, hru⟩ := iresult_sim hw hl h1
        refine ⟨u :: us, ?_, RelL.cons hru hlu⟩
        simp [List.mapM_cons, hu, hus]

theorem one_sim {vs us : List Value} (hl : RelL P B h μ vs us) : RelV P B h μ (one vs) (if hs : us.toArray.size = 1 then us.toArray[0] else .tuple us.toArray) := by
  obtain ⟨hlen, hget⟩ := hl
  cases vs with
  | nil =>
    have : us = [] := by cases us with | nil => rfl | cons _ _ => simp at hlen
    subst this
    exact RelL.tuple (by simpa using RelL.nil)
  | cons v vs =>
    cases us with
    | nil => simp at hlen
    | cons u us =>
      cases vs with
      | nil =>
        have : us = [] := by cases us with | nil => rfl | cons _ _ => simp at hlen
        subst this
        simpa [one] using hget 0 v u rfl rfl
      | cons v2 vs =>
        cases us with
        | nil => simp at hlen
        | cons u2 us =>
          rw [dif_neg (by simp)]
          exact RelL.tuple ⟨by simpa using hlen, by simpa using hget⟩

/-- What is told of the functions that are not read. -/
def HooksOK (P : Program) (w0 : World) (hk : Hooks) : Prop :=
  ∀ (f : FuncId) (k : Cl → List Value → Heap → Option (IRet × Heap)), hk f = some k → ∀ (cl : Cl), ClSim P w0 cl → ∀ (args : List Value) (h : Heap) (r : IRet) (h' : Heap), k cl args h = some (r, h') →
    ∀ (μ : Mp) (w : World) (args' : Array Value), RelW P w0 h μ w → RelL P w0.heap.size h μ args args'.toList →
    Calls P f args' w fun e w' => ∃ μ', RelW P w0 h' μ' w' ∧ Ext h μ h' μ' ∧ RelRet P w0.heap.size h' μ' r e

theorem call_sim (hm : P.follows .mixedOrders = true) {hk : Hooks} (hhk : HooksOK P w0 hk) (n : Nat) : ∀ d, ClSim P w0 (call P w0 hk n d)
  | 0 => by intro f args h r h' hr; simp [call] at hr
  | d + 1 => by
    intro f args h r h' hr μ w args' hw hl
    have ih := call_sim hm hhk n d
    simp only [call] at hr
    cases hkf : hk f with
    | some k =>
      rw [hkf] at hr
      exact hhk f k hkf _ ih args h r h' hr μ w args' hw hl
    | none =>
      rw [hkf] at hr
      simp only at hr
      cases hfn : P.funcs[f]? with
      | none => simp [hfn] at hr
      | some fn =>
        cases hbd : fn.body with
        | none => simp [hfn, hbd] at hr
        | some body =>
          simp only [hfn, hbd] at hr
          have hlen : args.length = args'.size := by simpa using hl.1
          by_cases hsz : args.length ≤ fn.ntmps
          case neg => rw [if_neg hsz] at hr; cases hr
          rw [if_pos hsz] at hr
          have hund : RelV P w0.heap.size h μ undef undef := RelL.tuple (by simpa using RelL.nil)
          have hl0 : RelL P w0.heap.size h μ (args.toArray ++ Array.replicate (fn.ntmps - args.length) undef).toList (args' ++ Array.replicate (fn.ntmps - args'.size) undef).toList := by
            rw [← hlen]
            simp only [Array.toList_append, Array.toList_replicate]
            refine hl.append ⟨rfl, fun i v u hv hu => ?_⟩
            rw [List.getElem?_replicate] at hv hu
            split at hv
            · cases hv; simp_all
            · cases hv
          have hres : ∀ (a : Array Value) (h2 : Heap) (vs : List Value), iresultL P w0 h2 a fn.results.toList = some vs → ∀ (at' : Act) (μ' : Mp) (w' : World), RelW P w0 h2 μ' w' → RelL P w0.heap.size h2 μ' a.toList at'.tmps.toList →
              ∃ u, (results fn at'.tmps).run P w' = .ok u w' ∧ RelV P w0.heap.size h2 μ' (one vs) u := by
            intro a h2 vs hvs at' μ' w' hw' hl'
            obtain ⟨us, hus, hlu⟩ := iresultL_sim hw' hl' _ _ hvs
            refine ⟨_, ?_, one_sim hlu⟩
            rw [results_eq, Array.mapM_eq_mapM_toList]
            simp [hus]
          cases hex : exec P w0 (call P w0 hk n d) n body (args.toArray ++ Array.replicate (fn.ntmps - args.length) undef) h with
          | none => simp [hex] at hr
          | some res =>
            obtain ⟨e, a, h1⟩ := res
            refine calls_of_wp hfn hbd (exec_sim hm ih n body _ h e a h1 hex μ w _ _ rfl hw hl0 fun at2 μ2 w2 hd2 hw2 he2 => ?_)
            cases e with
            | normal =>
              intro hl2
              simp only [hex] at hr
              obtain ⟨vs, hvs, hr⟩ := Option.map_eq_some_iff.1 hr
              cases hr
              obtain ⟨u, hu, hv⟩ := hres a h' vs hvs at2 μ2 w2 hw2 hl2
              exact ⟨hd2, u, hu, μ2, hw2, he2, hv⟩
            | ret =>
              intro hl2
              simp only [hex] at hr
              obtain ⟨vs, hvs, hr⟩ := Option.map_eq_some_iff.1 hr
              cases hr
              obtain ⟨u, hu, hv⟩ := hres a h' vs hvs at2 μ2 w2 hw2 hl2
              exact ⟨hd2, u, hu, μ2, hw2, he2, hv⟩
            | panic v =>
              intro u hv
              simp [hex] at hr
              obtain ⟨rfl, rfl⟩ := hr
              exact ⟨hd2, μ2, hw2, he2, u, rfl, hv⟩
            | exit id => simp [hex] at hr

end
end Go.Ideal
