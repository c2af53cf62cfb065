/- Operations that only reckon, related. -/
import Derived.Test.YtlifcjggdandnaaE4
namespace Go.Ideal
open Go.RowKit
section
variable {P : Program} {w0 w : World} {h h' h2 : Heap} {μ μ' μ2 : Mp}

/-- What an operation came to, here and there. -/
def Sim (P : Program) (w0 : World) (h : Heap) (μ : Mp) (w : World) (r : IRes) (res : Result Next) : Prop :=
  match r with
  | .val v h' => ∃ u w' μ', res = .ok (.value u) w' ∧ RelW P w0 h' μ' w' ∧ Ext h μ h' μ' ∧ RelV P w0.heap.size h' μ' v u
  | .skip h' => ∃ w' μ', res = .ok .skip w' ∧ RelW P w0 h' μ' w' ∧ Ext h μ h' μ'
  | .call f args => ∃ args' : Array Value, res = .ok (.enter f args') w ∧ RelL P w0.heap.size h μ args args'.toList
  | .panic v => ∃ u, res = .halt (.panic u) w ∧ RelV P w0.heap.size h μ v u

theorem sim_val (hw : RelW P w0 h μ w) {v u : Value} {res : Result Next} (hr : res = .ok (.value u) w) (hv : RelV P w0.heap.size h μ v u) : Sim P w0 h μ w (.val v h) res :=
  ⟨u, w, μ, hr, hw, Ext.refl _ _, hv⟩

theorem izero_spec {t : TypeId} {z : List Value} (hz : izero P t = some z) :
    ∃ i z0, P.info? t = some i ∧ i.zero = some z0 ∧ z0.cells.toList = z ∧ z.all plainV = true ∧ z.length = i.size := by
  unfold izero at hz
  obtain ⟨i, hi, hz⟩ := Option.bind_eq_some_iff.1 hz
  obtain ⟨z0, h0, hz⟩ := Option.bind_eq_some_iff.1 hz
  split at hz
  · rename_i hc
    cases hz
    exact ⟨i, z0, hi, h0, rfl, hc.1, by simpa using hc.2⟩
  · cases hz

theorem tsize_of {t : TypeId} {i : TypeInfo} (hi : P.info? t = some i) : tsize P t = some i.size := by simp [tsize, hi]

theorem run_zeroValue {t : TypeId} {i : TypeInfo} {z : Value} (hi : P.info? t = some i) (hz : i.zero = some z) : (zeroValue t).run P w = .ok z w := by
  simp [zeroValue, typeInfo, hi, hz]

theorem RelV.slice_inv {B : Nat} {a : Option Addr} {n c : Nat} {u : Value} (hv : RelV P B h μ (.slice a n c) u) : ∃ a' cap, u = .slice a' n cap ∧ a'.isNone = a.isNone := by
  cases hv with
  | plain _ hp => exact ⟨a, c, rfl, rfl⟩
  | grow _ a' _ cap _ => exact ⟨some a', cap, rfl, rfl⟩
  | unk _ a' _ cap _ _ => exact ⟨some a', cap, rfl, rfl⟩
  | exact _ a' _ k _ _ => exact ⟨some a', k, rfl, rfl⟩

/-! ### '==' -/

theorem part_sim {B : Nat} {t : TypeId} {xs ys : Array Value} {off : Nat} {v : Value} (hl : RelL P B h μ xs.toList ys.toList) (hp : ipart P t xs off = some v) :
    ∃ u, (part t ys off).run P w = .ok u w ∧ RelV P B h μ v u := by
  unfold ipart at hp
  cases hb : aggT P t with
  | none => simp [hb] at hp
  | some b =>
    cases b with
    | true =>
      simp only [hb] at hp
      obtain ⟨n, hn, hp⟩ := Option.bind_eq_some_iff.1 hp
      cases hp
      refine ⟨.agg (ys.extract off (off + n)), by simp [part, run_isAgg hb, run_sizeOf hn], RelL.agg ?_⟩
      have := (hl.drop off).take n
      simpa [Array.toList_extract, List.extract] using this
    | false =>
      simp only [hb] at hp
      have hlt : off < ys.size := by have := (Array.getElem?_eq_some_iff.1 hp).1; have := hl.1; simp at this; omega
      refine ⟨ys[off], by simp [part, run_isAgg hb, hlt], hl.2 off v _ (by simpa using hp) (by simp [hlt])⟩

theorem ieq_sim {B : Nat} : ∀ (d : Nat) (t : TypeId) (x y : Value) (b : Bool), ieq P d t x y = some b → ∀ x' y', RelV P B h μ x x' → RelV P B h μ y y' → ∀ D, d ≤ D → (Op.equalIn D t x' y').run P w = .ok b w
  | 0, _, _, _, _, hr, _, _, _, _, _, _ => by simp [ieq] at hr
  | d + 1, t, x, y, b, hr, x', y', hx, hy, D, hD => by
    obtain ⟨D, rfl⟩ : ∃ m, D = m + 1 := ⟨D - 1, by omega⟩
    unfold ieq at hr
    split at hr
    · rename_i ht; cases hx.bool_inv; cases hy.bool_inv; cases hr; exact run_equalIn_bool w D t _ _ ht
    · rename_i ht
      cases hx.int_inv; cases hy.int_inv
      split at hr
      · rename_i hk; subst hk; cases hr; exact run_equalIn_int w D t _ _ _ _ ht
      · cases hr
    · rename_i ht; cases hx.string_inv; cases hy.string_inv; cases hr; exact run_equalIn_string w D t _ _ ht
    · rename_i ht
      cases hx.plain_inv rfl
      cases hr
      cases hy with
      | plain _ hp => simp [Op.equalIn, run_underlying ht]
      | ptr a a' _ => simp [Op.equalIn, run_underlying ht]
    · rename_i ht
      cases hy.plain_inv rfl
      obtain ⟨a', rfl, _⟩ := hx.ptr_inv
      cases hr
      simp [Op.equalIn, run_underlying ht]
    · rename_i ht
      cases hr
      obtain ⟨a1, c1, rfl, h1⟩ := hx.slice_inv
      obtain ⟨a2, c2, rfl, h2⟩ := hy.slice_inv
      have h1 : a1 = none := by simpa using h1
      subst h1
      rw [← h2]
      simp [Op.equalIn, run_underlying ht]
    · rename_i ht
      cases hr
      obtain ⟨a1, c1, rfl, h1⟩ := hx.slice_inv
      obtain ⟨a2, c2, rfl, h2⟩ := hy.slice_inv
      have h2 : a2 = none := by simpa using h2
      subst h2
      cases a1 with
      | none => simp at h1
      | some a1 => simp [Op.equalIn, run_underlying ht]
    · rename_i ht; cases hx.plain_inv rfl; cases hy.plain_inv rfl; cases hr; simp [Op.equalIn, run_underlying ht]
    · rename_i ht
      cases hx.plain_inv rfl
      cases hr
      cases hy with
      | plain _ hp => simp [plainV] at hp
      | func => simp [Op.equalIn, run_underlying ht]
    · rename_i ht
      cases hy.plain_inv rfl
      cases hr
      cases hx with
      | plain _ hp => simp [plainV] at hp
      | func => simp [Op.equalIn, run_underlying ht]
    · rename_i ht
      cases hx.plain_inv rfl; cases hy.plain_inv rfl
      split at hr
      · cases hr; simp [Op.equalIn, run_underlying ht]
      · cases hr
    · rename_i ht
      cases hx.plain_inv rfl
      cases hr
      cases hy with
      | plain _ hp => simp [plainV] at hp
      | iface => simp [Op.equalIn, run_underlying ht]
    · rename_i ht
      cases hy.plain_inv rfl
      cases hr
      cases hx with
      | plain _ hp => simp [plainV] at hp
      | iface => simp [Op.equalIn, run_underlying ht]
    · rename_i fs xs ys ht
      obtain ⟨xs', rfl, hxs⟩ := hx.agg_inv
      obtain ⟨ys', rfl, hys⟩ := hy.agg_inv
      split at hr
      · cases hr
      · rename_i hst
        have hf : P.fieldsOf t = fs := by simp [Program.fieldsOf, ht]
        rw [run_equalIn_struct w D t xs' ys' (by rw [hf]; exact ht) (by simpa using hst), hf]
        clear ht hf hst
        generalize fs.toList = l at hr
        induction l generalizing b with
        | nil => simp at hr; subst hr; simp [Op.eqFields]
        | cons f l ih =>
          simp only [List.foldr_cons] at hr
          simp only [Op.eqFields]
          split at hr
          · rename_i hn
            rw [if_pos hn]
            have one : ∀ (u v : Value) (r : Bool), ipart P f.type xs f.offset = some u → ipart P f.type ys f.offset = some v → ieq P d f.type u v = some r →
                (if r then (l.foldr (fun f acc => if f.name ≠ "_" then
                    match aggT P f.type, tsize P f.type with
                    | some true, some n => (ieq P d f.type (.agg (xs.extract f.offset (f.offset + n))) (.agg (ys.extract f.offset (f.offset + n)))).bind fun b => if b then acc else some false
                    | some false, _ => (xs[f.offset]?).bind fun a => (ys[f.offset]?).bind fun b => (ieq P d f.type a b).bind fun r => if r then acc else some false
                    | _, _ => none
                  else acc) (some true)) else some false) = some b →
                (do let a ← part f.type xs' f.offset; let b' ← part f.type ys' f.offset; let r ← Op.equalIn D f.type a b'; if (!r) = true then pure false else Op.eqFields D xs' ys' l : Sem Bool).run P w = .ok b w := by
              intro u v r hu hv hr1 hr2
              obtain ⟨u', hu', hru⟩ := part_sim (w := w) hxs hu
              obtain ⟨v', hv', hrv⟩ := part_sim (w := w) hys hv
              have := ieq_sim d f.type u v r hr1 u' v' hru hrv D (by omega)
              cases r with
              | true => simp only [if_true] at hr2; simp [hu', hv', this, ih b hr2]
              | false => simp at hr2; subst hr2; simp [hu', hv', this]
            split at hr
            · rename_i n ha hs
              obtain ⟨r, hr1, hr2⟩ := Option.bind_eq_some_iff.1 hr
              exact one _ _ r (by simp [ipart, ha, hs]) (by simp [ipart, ha, hs]) hr1 hr2
            · rename_i ha
              obtain ⟨u, hu, hr⟩ := Option.bind_eq_some_iff.1 hr
              obtain ⟨v, hv, hr⟩ := Option.bind_eq_some_iff.1 hr
              obtain ⟨r, hr1, hr2⟩ := Option.bind_eq_some_iff.1 hr
              exact one u v r (by simp [ipart, ha, hu]) (by simp [ipart, ha, hv]) hr1 hr2
            · cases hr
          · rename_i hn
            rw [if_neg hn]
            exact ih b hr
    · cases hr

end
end Go.Ideal
namespace Go.Ideal
open Go.RowKit
section
variable {P : Program} {w0 w : World} {h h' h2 : Heap} {μ μ' μ2 : Mp} {B : Nat}

theorem iint_sim {op : BinOp} {k : IntKind} {a b : Int} {v : Value} (t : TypeId) (hr : iint op k a b = some v) : (binOp op t (.int k a) (.int k b)).run P w = .ok v w ∧ plainV v = true := by
  cases op <;> simp only [iint] at hr
  case quo =>
    split at hr
    · cases hr
    · cases hr; rename_i hb; simp [binOp_quo, Op.intDiv, hb, plainV]
  case rem =>
    split at hr
    · cases hr
    · cases hr; rename_i hb; simp [binOp_rem, Op.intDiv, hb, plainV]
  all_goals first
    | (cases hr; done)
    | (cases hr; simp [binOp_add, binOp_sub, binOp_mul, binOp_and, binOp_or, binOp_xor, binOp_andNot, binOp_eql, binOp_neq, binOp_lss, binOp_leq, binOp_gtr, binOp_geq, intBits_and, intBits_or, intBits_xor, intBits_andNot, Op.intArith, plainV])

theorem ishift_sim {op : BinOp} {k k' : IntKind} {a b : Int} {v : Value} (t : TypeId) (hop : op = .shl ∨ op = .shr) (hr : ishift op k a b = some v) : (binOp op t (.int k a) (.int k' b)).run P w = .ok v w ∧ plainV v = true := by
  unfold ishift at hr
  split at hr
  · cases hr
  · rename_i hb
    rcases hop with rfl | rfl
    · cases hr; simp [binOp_shl, Op.shift, hb, plainV]
    · cases hr; simp [binOp_shr, Op.shift, hb, plainV]

theorem istr_sim {op : BinOp} {a b : ByteArray} {v : Value} (t : TypeId) (hr : istr op a b = some v) : (binOp op t (.string a) (.string b)).run P w = .ok v w ∧ plainV v = true := by
  have hb : binOp op t (.string a) (.string b) = Op.stringOp op a b := by cases op <;> rfl
  rw [hb]
  cases op <;> simp only [istr] at hr
  case add =>
    split at hr
    · cases hr
    · rename_i hc
      cases hr
      simp [Op.stringOp, plainV]
      simpa using hc
  all_goals first
    | (cases hr; done)
    | (cases hr; simp [Op.stringOp, plainV])

theorem ibin_sim {op : BinOp} {t : TypeId} {x y x' y' : Value} {v : Value} (ox oy : Operand) (hr : ibin P op t x y = some v) (hx : RelV P B h μ x x') (hy : RelV P B h μ y y') :
    ((do eqGuard op t ox oy x' y'; binOp op t x' y' : Sem Value)).run P w = .ok v w ∧ plainV v = true := by
  unfold ibin at hr
  split at hr
  · rename_i k a k' b
    cases hx.int_inv; cases hy.int_inv
    have hg : eqGuard op t ox oy (.int k a) (.int k' b) = pure () := eqGuard_at_int ..
    simp only [hg, Sem.run_bind, Sem.run_pure, Result.andThen_ok]
    split at hr
    · exact ishift_sim t (.inl rfl) hr
    · exact ishift_sim t (.inr rfl) hr
    · split at hr
      · rename_i hk; subst hk; exact iint_sim t hr
      · cases hr
  · cases hx.string_inv; cases hy.string_inv
    have hg : ∀ a b, eqGuard op t ox oy (.string a) b = pure () := fun a b => eqGuard_at_string ..
    simp only [hg, Sem.run_bind, Sem.run_pure, Result.andThen_ok]
    exact istr_sim t hr
  · rename_i xs ys
    obtain ⟨xs', rfl, hxs⟩ := hx.agg_inv
    obtain ⟨ys', rfl, hys⟩ := hy.agg_inv
    split at hr
    · cases hr
    · rename_i hg
      have hg' := run_eqGuard_agg (P := P) w op t ox oy xs' ys' (by simpa using hg)
      simp only [Sem.run_bind, hg', Result.andThen_ok]
      split at hr
      · obtain ⟨b, hb, rfl⟩ := Option.map_eq_some_iff.1 hr
        have := ieq_sim (w := w) 100 t _ _ b hb _ _ hx hy 10000 (by omega)
        simp [run_eql_struct, this, plainV]
      · obtain ⟨b, hb, rfl⟩ := Option.map_eq_some_iff.1 hr
        have := ieq_sim (w := w) 100 t _ _ b hb _ _ hx hy 10000 (by omega)
        simp [run_neq_struct, this, plainV]
      · cases hr
  · rename_i n1 n2 n3
    -- what is equal or not
    have key : ∀ b, ieq P 100 t x y = some b → (eqGuard op t ox oy x' y').run P w = .ok () w ∧ (Op.equal t x' y').run P w = .ok b w ∧
        (∀ o, (o = .eql ∨ o = .neq) → binOp o t x' y' = (if o = .eql then (do pure (.bool (← Op.equal t x' y'))) else (do pure (.bool (!(← Op.equal t x' y')))))) := by
      intro b hb
      refine ⟨?_, ieq_sim (w := w) 100 t _ _ b hb _ _ hx hy 10000 (by omega), ?_⟩
      · have ok : eqGuard op t ox oy x' y' = pure () → (eqGuard op t ox oy x' y').run P w = .ok () w := fun h => by rw [h]; rfl
        unfold ieq at hb
        split at hb
        · cases hx.bool_inv; exact ok (eqGuard_at_bool ..)
        · exact absurd rfl (n1 _ _ _ _ rfl)
        · exact absurd rfl (n2 _ _ rfl)
        · cases hx.plain_inv rfl; exact ok (eqGuard_at_pointer ..)
        · obtain ⟨a', rfl, _⟩ := hx.ptr_inv; exact ok (eqGuard_at_pointer ..)
        · obtain ⟨a1, c1, rfl, h1⟩ := hx.slice_inv; exact ok (eqGuard_at_slice ..)
        · obtain ⟨a1, c1, rfl, h1⟩ := hx.slice_inv; exact ok (eqGuard_at_slice ..)
        · cases hx.plain_inv rfl; exact ok (eqGuard_at_nilFunc ..)
        · cases hx.plain_inv rfl; exact ok (eqGuard_at_nilFunc ..)
        · cases hx with
          | plain _ hp => simp [plainV] at hp
          | func => exact ok (eqGuard_at_func ..)
        · rename_i ms ht
          cases hx.plain_inv rfl; cases hy.plain_inv rfl
          split at hb
          · rename_i hms
            have hin : (Op.eqGuardIn Op.maxDepth t .nilIface .nilIface).run P w = .ok false w := by
              have hD : ∀ D, (Op.eqGuardIn (D + 1) t .nilIface .nilIface).run P w = .ok false w := fun D => by
                simp [Op.eqGuardIn, run_underlying ht, hms]
              exact hD 9999
            unfold eqGuard
            cases op <;> simp [hin]
            all_goals (split <;> simp [hin])
          · cases hb
        · cases hx.plain_inv rfl
          cases hy with
          | plain _ hp => simp [plainV] at hp
          | iface => refine ok ?_; cases op <;> rfl
        · cases hx with
          | plain _ hp => simp [plainV] at hp
          | iface => exact ok (eqGuard_at_iface ..)
        · exact absurd rfl (n3 _ _ rfl)
        · cases hb
      · intro o ho
        unfold ieq at hb
        split at hb
        · cases hx.bool_inv; cases hy.bool_inv; rcases ho with rfl | rfl <;> rfl
        · exact absurd rfl (n1 _ _ _ _ rfl)
        · exact absurd rfl (n2 _ _ rfl)
        · cases hx.plain_inv rfl
          cases hy with
          | plain _ hp => rcases ho with rfl | rfl <;> rfl
          | ptr => rcases ho with rfl | rfl <;> rfl
        · cases hy.plain_inv rfl; obtain ⟨a', rfl, _⟩ := hx.ptr_inv; rcases ho with rfl | rfl <;> rfl
        · obtain ⟨a1, c1, rfl, h1⟩ := hx.slice_inv; obtain ⟨a2, c2, rfl, h2⟩ := hy.slice_inv; rcases ho with rfl | rfl <;> rfl
        · obtain ⟨a1, c1, rfl, h1⟩ := hx.slice_inv; obtain ⟨a2, c2, rfl, h2⟩ := hy.slice_inv; rcases ho with rfl | rfl <;> rfl
        · cases hx.plain_inv rfl; cases hy.plain_inv rfl; rcases ho with rfl | rfl <;> rfl
        · cases hx.plain_inv rfl
          cases hy with
          | plain _ hp => simp [plainV] at hp
          | func => rcases ho with rfl | rfl <;> rfl
        · cases hy.plain_inv rfl
          cases hx with
          | plain _ hp => simp [plainV] at hp
          | func => rcases ho with rfl | rfl <;> rfl
        · cases hx.plain_inv rfl; cases hy.plain_inv rfl; rcases ho with rfl | rfl <;> rfl
        · cases hx.plain_inv rfl
          cases hy with
          | plain _ hp => simp [plainV] at hp
          | iface => rcases ho with rfl | rfl <;> rfl
        · cases hy.plain_inv rfl
          cases hx with
          | plain _ hp => simp [plainV] at hp
          | iface => rcases ho with rfl | rfl <;> rfl
        · exact absurd rfl (n3 _ _ rfl)
        · cases hb
    split at hr
    · obtain ⟨b, hb, rfl⟩ := Option.map_eq_some_iff.1 hr
      obtain ⟨k1, k2, k3⟩ := key b hb
      rw [k3 _ (.inl rfl)]
      simp [k1, k2, plainV]
    · obtain ⟨b, hb, rfl⟩ := Option.map_eq_some_iff.1 hr
      obtain ⟨k1, k2, k3⟩ := key b hb
      rw [k3 _ (.inr rfl)]
      simp [k1, k2, plainV]
    · cases hr

theorem iun_sim {op : UnOp} {x x' v : Value} (hr : iun op x = some v) (hx : RelV P B h μ x x') : (Op.unary op x').run P w = .ok v w ∧ plainV v = true := by
  unfold iun at hr
  split at hr
  · cases hx.int_inv; cases hr; simp [Op.unary, Op.intArith, plainV]
  · cases hx.bool_inv; cases hr; simp [Op.unary, plainV]
  · cases hr

end
end Go.Ideal
namespace Go.Ideal
open Go.RowKit
section
variable {P : Program} {w0 w : World} {h h' h2 : Heap} {μ μ' μ2 : Mp} {B : Nat}

theorem fold_set (off : Nat) : ∀ (us : List Value) (k : Nat) (C : Array Value), off + k + us.length ≤ C.size →
    ((us.zipIdx k).foldl (fun cs (c, j) => cs.setIfInBounds (off + j) c) C).toList = splice C.toList (off + k) us
  | [], k, C, _ => by simp [splice]
  | u :: us, k, C, hle => by
    simp only [List.zipIdx_cons, List.foldl_cons]
    rw [fold_set off us (k + 1) _ (by simp at hle ⊢; omega)]
    simp only [splice, Array.toList_setIfInBounds]
    simp at hle
    have hlt : off + k < C.toList.length := by simp; omega
    rw [List.set_eq_take_append_cons_drop, if_pos hlt]
    have e1 : off + (k + 1) = (C.toList.take (off + k)).length + 1 := by simp; omega
    rw [e1, List.take_length_add_append, List.drop_append, List.length_take]
    simp
    have e2 : min (off + k) C.size = off + k := by omega
    rw [e2]
    have e3 : off + k + 1 + us.length - (off + k) = us.length + 1 := by omega
    have e4 : off + k + 1 + us.length ≥ off + k := by omega
    rw [List.drop_eq_nil_of_le (by simp; omega), e3]
    simp
    congr 1
    omega

theorem fill_sim (place : Nat → Option (Nat × Nat)) : ∀ (parts parts' : List (Nat × Value)) (cells cs : List Value) (C : Array Value),
    parts.map (·.1) = parts'.map (·.1) → RelL P B h μ (parts.map (·.2)) (parts'.map (·.2)) → RelL P B h μ cells C.toList → ifill place cells parts = some cs →
    ∃ C', Instr.fill place C parts' = some C' ∧ RelL P B h μ cs C'.toList
  | [], parts', cells, cs, C, hk, _, hc, hr => by
    have : parts' = [] := by simpa using hk.symm
    subst this
    simp [ifill] at hr
    subst hr
    exact ⟨C, rfl, hc⟩
  | (i, v) :: rest, parts', cells, cs, C, hk, hv, hc, hr => by
    cases parts' with
    | nil => simp at hk
    | cons p rest' =>
      obtain ⟨i', u⟩ := p
      simp only [List.map_cons, List.cons.injEq] at hk
      obtain ⟨rfl, hk⟩ := hk
      have hvu : RelV P B h μ v u := hv.2 0 v u (by simp) (by simp)
      have hrest : RelL P B h μ (rest.map (·.2)) (rest'.map (·.2)) := by simpa using hv.drop 1
      simp only [ifill] at hr
      simp only [Instr.fill]
      cases hp : place i with
      | none => simp [hp] at hr
      | some os =>
        obtain ⟨off, size⟩ := os
        simp only [hp] at hr ⊢
        have hcl := hvu.cells
        have hlen : u.cells.size = (vcells v).length := by rw [hcl.1]; simp [vcells]
        have hcs : C.size = cells.length := by rw [hc.1]; simp
        split at hr
        · cases hr
        · rename_i hcond
          have hcond' : ¬ (u.cells.size ≠ size ∨ off + u.cells.size > C.size) := by rw [hlen, hcs]; exact hcond
          rw [if_neg (by simpa using hcond')]
          refine fill_sim place rest rest' _ cs _ hk hrest ?_ hr
          have hle : off + 0 + u.cells.toList.length ≤ C.size := by simp; omega
          have := fold_set off u.cells.toList 0 C hle
          have e : (Array.foldl (fun cs x => cs.setIfInBounds (off + x.2) x.1) C u.cells.zipIdx).toList = splice C.toList off u.cells.toList := by
            rw [← Array.foldl_toList, Array.toList_zipIdx]
            simpa using this
          simp only [e]
          exact hc.splice off hcl

theorem iplaces_sim : ∀ (fs : List Field) (pl : List (Nat × Nat)), iplaces P fs = some pl → (fs.mapM fun f => Prod.mk f.offset <$> sizeOf f.type).run P w = .ok pl w
  | [], pl, hr => by simp [iplaces] at hr; subst hr; simp
  | f :: fs, pl, hr => by
    simp only [iplaces] at hr
    obtain ⟨n, hn, hr⟩ := Option.bind_eq_some_iff.1 hr
    obtain ⟨pl', hp, rfl⟩ := Option.map_eq_some_iff.1 hr
    have := iplaces_sim fs pl' hp
    simp [List.mapM_cons, run_sizeOf hn, this]

theorem ibuild_sim {t : TypeId} {parts parts' : List (Nat × Value)} {v : Value} (hk : parts.map (·.1) = parts'.map (·.1)) (hv : RelL P B h μ (parts.map (·.2)) (parts'.map (·.2)))
    (hr : ibuild P t parts = some v) : ∃ u, (Instr.build t parts'.toArray).run P w = .ok u w ∧ RelV P B h μ v u := by
  unfold ibuild at hr
  obtain ⟨z, hz, hr⟩ := Option.bind_eq_some_iff.1 hr
  obtain ⟨i, z0, hi, h0, hc, hpl, _⟩ := izero_spec hz
  have hzz : RelL P B h μ z z0.cells.toList := by rw [hc]; exact RelL.plain hpl
  split at hr
  · rename_i fs ht
    obtain ⟨pl, hp, hr⟩ := Option.bind_eq_some_iff.1 hr
    obtain ⟨cs, hcs, hr⟩ := Option.bind_eq_some_iff.1 hr
    split at hr
    · cases hr
      obtain ⟨C', hf, hrel⟩ := fill_sim _ parts parts' z cs z0.cells hk hv hzz hcs
      have hm : (fs.mapM fun f => (do pure (f.offset, ← sizeOf f.type) : Sem (Nat × Nat))).run P w = .ok pl.toArray w := by
        rw [Array.mapM_eq_mapM_toList]
        simp [iplaces_sim fs.toList pl hp]
      refine ⟨.agg C', ?_, RelL.agg (by simpa using hrel)⟩
      simp only [Instr.build, Sem.run_bind, run_zeroValue hi h0, Result.andThen_ok, run_underlying ht, hm]
      simp [hf]
    · cases hr
  · rename_i n e ht
    obtain ⟨n, hn, hr⟩ := Option.bind_eq_some_iff.1 hr
    obtain ⟨cs, hcs, hr⟩ := Option.bind_eq_some_iff.1 hr
    split at hr
    · cases hr
      obtain ⟨C', hf, hrel⟩ := fill_sim _ parts parts' z cs z0.cells hk hv hzz hcs
      refine ⟨.agg C', ?_, RelL.agg (by simpa using hrel)⟩
      simp [Instr.build, run_zeroValue hi h0, run_underlying ht, run_sizeOf hn, hf]
    · cases hr
  · cases hr

theorem repl_made (z : Array Value) (hz : z.size ≠ 0) : ∀ (n : Nat), (madeCells z (n * z.size)).toList = repl n z.toList
  | 0 => by simp [madeCells, repl]
  | n + 1 => by
    have ih := repl_made z hz n
    have e1 : repl (n + 1) z.toList = repl n z.toList ++ z.toList := by
      simp only [repl]
      rw [List.replicate_succ', List.flatten_append]
      simp
    rw [e1, ← ih]
    apply List.ext_getElem
    · simp [madeCells, Nat.add_mul]
    · intro i h1 h2
      simp only [madeCells, Array.toList_map, Array.toList_range, List.getElem_map, List.getElem_range]
      by_cases hi : i < n * z.size
      · rw [List.getElem_append_left (by simpa using hi)]
        simp
      · rw [List.getElem_append_right (by simpa using hi)]
        have hlt : i - n * z.size < z.size := by simp [madeCells, Nat.add_mul] at h1; omega
        have : i % z.size = i - n * z.size := by
          have hmul : z.size * n = n * z.size := Nat.mul_comm _ _
          have hni : n * z.size ≤ i := by simpa using hi
          have hh : i = z.size * n + (i - n * z.size) := by omega
          conv => lhs; rw [hh, Nat.mul_add_mod, Nat.mod_eq_of_lt hlt]
        simp [this, hlt]

theorem repl_length (n : Nat) (z : List Value) : (repl n z).length = n * z.length := by simp [repl]

theorem RelL.repl {z z' : List Value} (hz : RelL P B h μ z z') : ∀ n, RelL P B h μ (Go.Ideal.repl n z) (Go.Ideal.repl n z')
  | 0 => by simp [Go.Ideal.repl]; exact .nil
  | n + 1 => by
    have e : ∀ x : List Value, Go.Ideal.repl (n + 1) x = x ++ Go.Ideal.repl n x := fun x => by simp [Go.Ideal.repl, List.replicate_succ]
    rw [e, e]
    exact hz.append (RelL.repl hz n)

/-- A new slice of exact room. -/
theorem irow_sim (hw : RelW P w0 h μ w) {e : TypeId} {cs : List Value} {C : Array Value} (hl : RelL P w0.heap.size h μ cs C.toList) (n m : Nat) (hnm : n ≤ m) {res : Result Next}
    (hr : res = .ok (.value (.slice (some ⟨w.heap.size, 0, none⟩) n m)) (w.alloc (.cells C e))) :
    Sim P w0 h μ w (.val (.slice (some ⟨h.length, 0, some 0⟩) n (m + 2)) (h ++ [.row cs e 0])) res := by
  obtain ⟨h1, h2⟩ := row_push (e := e) hw hl
  exact ⟨_, _, _, hr, h1, h2, .exact _ _ _ _ (fun _ => new_addr (.row cs e 0) (w.heap.size, C.size) hw.len rfl) hnm⟩

theorem ibuildSlice_sim (hw : RelW P w0 h μ w) {t : TypeId} {len : Nat} {parts parts' : List (Nat × Value)} {r : IRes} (hk : parts.map (·.1) = parts'.map (·.1))
    (hv : RelL P w0.heap.size h μ (parts.map (·.2)) (parts'.map (·.2))) (hr : ibuildSlice P h t len parts = some r) :
    Sim P w0 h μ w r ((do pure (.value (← Instr.buildSlice t len parts'.toArray)) : Sem Next).run P w) := by
  unfold ibuildSlice at hr
  split at hr
  · rename_i e ht
    obtain ⟨z, hz, hr⟩ := Option.bind_eq_some_iff.1 hr
    obtain ⟨i, z0, hi, h0, hc, hpl, hsz⟩ := izero_spec hz
    split at hr
    · cases hr
    · rename_i hcond
      obtain ⟨cs, hcs, hr⟩ := Option.bind_eq_some_iff.1 hr
      split at hr
      · cases hr
        have hz0 : z0.cells.size = i.size := by rw [← hsz, ← hc]; simp
        have hne : z0.cells.size ≠ 0 := by rw [hz0, ← hsz]; intro hx; exact hcond (.inl hx)
        have hzz : RelL P w0.heap.size h μ (repl len z) (madeCells z0.cells (len * z0.cells.size)).toList := by
          rw [repl_made _ hne, hc]; exact (RelL.plain hpl).repl len
        have hcs' : ifill (fun j => some (j * i.size, i.size)) (repl len z) parts = some cs := by rw [← hsz]; exact hcs
        obtain ⟨C', hf, hrel⟩ := fill_sim _ parts parts' _ cs _ hk hv hzz hcs'
        refine irow_sim hw hrel len len (Nat.le_refl _) ?_
        have hle : ¬ (len * i.size > 2 ^ 24) := by rw [← hsz]; intro hx; exact hcond (.inr (by simpa using hx))
        have hf' : Instr.fill (fun j => some (j * i.size, i.size)) (Array.map (fun x => z0.cells[x % i.size]!) (Array.range (len * i.size))) parts' = some C' := by
          rw [← hz0]; rw [← hz0] at hf; exact hf
        by_cases hl0 : len * i.size = 0
        · have : len = 0 := by
            rcases Nat.mul_eq_zero.1 hl0 with h | h
            · exact h
            · exact absurd h (by rw [← hz0]; exact hne)
          subst this
          rw [Nat.zero_mul, Array.range_zero'] at hf'
          simp at hf'
          simp [Instr.buildSlice, run_underlying ht, run_sizeOf (tsize_of hi), hf', run_newRow, Array.range_zero']
        · have hl1 : ¬ (2 ^ 24 < len * i.size) := by omega
          simp only [Instr.buildSlice, run_underlying ht, Sem.run_bind, Result.andThen_ok, run_sizeOf (tsize_of hi), gt_iff_lt, hl1, if_false, Sem.run_pure, hl0, run_zeroValue hi h0, hz0, hf', run_newRow]
      · cases hr
  · cases hr

end
end Go.Ideal
namespace Go.Ideal
open Go.RowKit
section
variable {P : Program} {w0 w : World} {h h' h2 : Heap} {μ μ' μ2 : Mp} {B : Nat}

theorem ifieldAddr_sim {t : TypeId} {x x' v : Value} {k : Nat} (hx : RelV P B h μ x x') (hr : ifieldAddr P t x k = some v) :
    ∃ u, (Instr.fieldAt t x' k).run P w = .ok u w ∧ RelV P B h μ v u := by
  unfold ifieldAddr at hr
  split at hr
  · rename_i fs a ht
    obtain ⟨a', rfl, ha⟩ := hx.ptr_inv
    obtain ⟨f, hf, hr⟩ := Option.bind_eq_some_iff.1 hr
    obtain ⟨n, hn, hr⟩ := Option.bind_eq_some_iff.1 hr
    split at hr
    · cases hr
    · rename_i h0
      cases hr
      refine ⟨.pointer (some (a'.add f.offset)), ?_, .ptr _ _ (ha.shift _)⟩
      simp [Instr.fieldAt, run_underlying ht, hf, Instr.sureAddr, fieldPlace, run_sizeOf hn, h0]
  · cases hr

theorem ifield_sim {t : TypeId} {x x' v : Value} {k : Nat} (hx : RelV P B h μ x x') (hr : ifield P t x k = some v) :
    ∃ u, (Instr.field t x' k).run P w = .ok u w ∧ RelV P B h μ v u := by
  unfold ifield at hr
  split at hr
  · rename_i fs cs ht
    obtain ⟨ys, rfl, hl⟩ := hx.agg_inv
    obtain ⟨f, hf, hr⟩ := Option.bind_eq_some_iff.1 hr
    obtain ⟨u, hu, hv⟩ := part_sim (w := w) hl hr
    exact ⟨u, by simp [Instr.field, run_underlying ht, hf, asAgg, hu], hv⟩
  · cases hr

theorem iindexAddr_sim {t : TypeId} {x x' i i' v : Value} (hx : RelV P B h μ x x') (hi : RelV P B h μ i i') (hr : iindexAddr P t x i = some v) :
    ∃ u, (Instr.indexAt t x' i').run P w = .ok u w ∧ RelV P B h μ v u := by
  unfold iindexAddr at hr
  split at hr
  · rename_i e a len c k j ht
    cases hi.int_inv
    obtain ⟨n, hn, hr⟩ := Option.bind_eq_some_iff.1 hr
    split at hr
    · rename_i hj
      cases hr
      have hlen : len ≠ 0 := by omega
      have : ∃ a' cap, x' = .slice (some a') len cap ∧ RelA B h μ a a' := by
        cases hx with
        | grow _ a' _ cap hg =>
          refine ⟨a', cap, rfl, ?_⟩
          obtain ⟨g, cs, e1, g', h1, h2, h3, h4⟩ := hg
          unfold RelA
          simp only [h1]
          refine ⟨_, h3, ?_⟩
          rcases h4 with h4 | ⟨h4, p, s, hp, h5, _⟩
          · exact .inl h4
          · exact .inr ⟨h4.symm, p, hp, by rw [h2]; exact h5⟩
        | unk _ a' _ cap ha _ => exact ⟨a', cap, rfl, ha hlen⟩
        | exact _ a' _ k ha hnk => exact ⟨a', k, rfl, ha (by omega)⟩
        | plain _ hp => simp [plainV] at hp
      obtain ⟨a', cap, rfl, ha⟩ := this
      refine ⟨.pointer (some (a'.add (j.toNat * n))), ?_, .ptr _ _ (ha.shift _)⟩
      simp [Instr.indexAt, run_underlying ht, asIntOf, run_sizeOf hn, hj]
    · cases hr
  · rename_i len e a k j ht
    cases hi.int_inv
    obtain ⟨n, hn, hr⟩ := Option.bind_eq_some_iff.1 hr
    split at hr
    · rename_i hj
      cases hr
      obtain ⟨a', rfl, ha⟩ := hx.ptr_inv
      refine ⟨.pointer (some (a'.add (j.toNat * n))), ?_, .ptr _ _ (ha.shift _)⟩
      simp [Instr.indexAt, run_underlying ht, asIntOf, run_sizeOf hn, hj, Instr.sureAddr]
    · cases hr
  · cases hr

theorem iindex_sim {t : TypeId} {x x' i i' v : Value} (hx : RelV P B h μ x x') (hi : RelV P B h μ i i') (hr : iindex P t x i = some v) :
    ∃ u, (Instr.index t x' i').run P w = .ok u w ∧ RelV P B h μ v u := by
  unfold iindex at hr
  split at hr
  · rename_i len e cs k j ht
    cases hi.int_inv
    obtain ⟨ys, rfl, hl⟩ := hx.agg_inv
    obtain ⟨n, hn, hr⟩ := Option.bind_eq_some_iff.1 hr
    split at hr
    · rename_i hj
      obtain ⟨u, hu, hv⟩ := part_sim (w := w) hl hr
      exact ⟨u, by simp [Instr.index, run_underlying ht, asIntOf, hj, run_sizeOf hn, hu], hv⟩
    · cases hr
  · rename_i s k j ht
    cases hi.int_inv
    cases hx.string_inv
    split at hr
    · rename_i hj
      obtain ⟨b, hb, rfl⟩ := Option.map_eq_some_iff.1 hr
      refine ⟨_, ?_, .plain _ rfl⟩
      have hb' : s[j.toNat]? = some b := by
        have hlt : j.toNat < s.data.toList.length := (List.getElem?_eq_some_iff.1 hb).1
        have hlt' : j.toNat < s.size := by simpa using hlt
        rw [getElem?_pos s j.toNat hlt']
        rw [List.getElem?_eq_getElem hlt] at hb
        injection hb with hb
        rw [← hb]
        simp
        rfl
      simp [Instr.index, run_underlying ht, asIntOf, hj, hb']
    · cases hr
  · cases hr

theorem iconvert_sim {src dst : TypeId} {x x' v : Value} (hx : RelV P B h μ x x') (hr : iconvert P src dst x = some v) : (convert src dst x').run P w = .ok v w ∧ plainV v = true := by
  unfold iconvert at hr
  split at hr
  · rename_i d k k' n hs hd
    cases hx.int_inv
    cases hr
    exact ⟨by simp [convert, run_underlying hs, run_underlying hd, Conv.intToInt], rfl⟩
  · cases hr

theorem itypeAssert_sim {x x' v : Value} {xt t : TypeId} {ok : Bool} (hx : RelV P B h μ x x') (hr : itypeAssert P x t ok = some v) :
    ∃ u, (Instr.typeAssert x' xt t ok).run P w = .ok u w ∧ RelV P B h μ v u := by
  unfold itypeAssert at hr
  split at hr
  · cases hr
  · rename_i d u v' hni ht
    cases hx with
    | plain _ hp => simp [plainV] at hp
    | iface _ _ u' hv =>
      split at hr
      · rename_i he
        subst he
        cases hr
        cases ok
        · refine ⟨u', ?_, hv⟩
          cases d <;> first | (simp [Instr.typeAssert, run_underlying ht]; done) | (exact absurd rfl (hni _))
        · refine ⟨.tuple #[u', .bool true], ?_, RelL.tuple (RelL.cons hv (RelL.cons (.plain _ rfl) RelL.nil))⟩
          cases d <;> first | (simp [Instr.typeAssert, run_underlying ht]; done) | (exact absurd rfl (hni _))
      · cases hr
  · cases hr

/-! ### Maps -/

def EntR (P : Program) (B : Nat) (h : Heap) (μ : Mp) (es : List (Int × Value)) (ents : List MapEntry) : Prop :=
  es.length = ents.length ∧ ∀ (i : Nat) (e : Int × Value) (m : MapEntry), es[i]? = some e → ents[i]? = some m → m.key = .int .i64 e.1 ∧ RelV P B h μ e.2 m.val

theorem findNow_sim (k : Int) : ∀ (es : List (Int × Value)) (ents : List MapEntry) (i : Nat), EntR P B h μ es ents →
    (mfind k es = none ∧ Instr.findNow (.int .i64) (.int .i64 k) ents i = some none) ∨
    (∃ v u j m, mfind k es = some v ∧ Instr.findNow (.int .i64) (.int .i64 k) ents i = some (some (i + j, u)) ∧ RelV P B h μ v u ∧ ents[j]? = some m ∧ m.key = .int .i64 k ∧
      ∀ x, mput k x es = es.set j (k, x))
  | [], ents, i, he => by
    have : ents = [] := by have := he.1; simpa using this.symm
    subst this
    exact .inl ⟨rfl, rfl⟩
  | e :: es, [], i, he => by have := he.1; simp at this
  | e :: es, m :: ents, i, he => by
    obtain ⟨hk, hv⟩ := he.2 0 e m (by simp) (by simp)
    have he' : EntR P B h μ es ents := ⟨by have := he.1; simpa using this, fun j e' m' h1 h2 => he.2 (j + 1) e' m' (by simpa using h1) (by simpa using h2)⟩
    simp only [mfind, mput, Instr.findNow, hk, Instr.sameNow, if_true]
    by_cases hkk : k = e.1
    · subst hkk
      refine .inr ⟨e.2, m.val, 0, m, by simp, by simp, hv, by simp, hk, by simp⟩
    · have hb : (k == e.1) = false := by simpa using hkk
      simp only [hkk, if_false, hb]
      rcases findNow_sim k es ents (i + 1) he' with ⟨h1, h2⟩ | ⟨v, u, j, m', h1, h2, h3, h4, h5, h6⟩
      · exact .inl ⟨h1, h2⟩
      · refine .inr ⟨v, u, j + 1, m', h1, ?_, h3, by simpa using h4, h5, fun x => by simp [h6]⟩
        rw [h2]; congr 3; omega

theorem map_get (hw : RelW P w0 h μ w) {r : Nat} {es : List (Int × Value)} {p : Nat × Nat} (hr : h[r]? = some (.map es)) (hp : μ[r]? = some p) :
    ∃ (ents : Array MapEntry) (clock : Nat), w.heap[p.1]? = some (.map ents clock) ∧ EntR P w0.heap.size h μ es ents.toList := by
  obtain ⟨ents, cl, h1, h2, h3⟩ := hw.obj _ _ _ hr hp
  refine ⟨ents, cl, h1, by simp [h2], fun i e m he hm => ?_⟩
  obtain ⟨m', hm', hk, hv⟩ := h3 i e he
  rw [Array.getElem?_toList, hm'] at hm
  cases hm
  exact ⟨hk, hv⟩

theorem RelV.map_inv {r : Nat} {u : Value} (hv : RelV P B h μ (.map (some r)) u) : ∃ es p, u = .map (some p.1) ∧ h[r]? = some (.map es) ∧ μ[r]? = some p := by
  cases hv with
  | plain _ hp => simp [plainV] at hp
  | map _ es p h1 h2 => exact ⟨es, p, rfl, h1, h2⟩

theorem run_getObj_map {g : Nat} {ents : Array MapEntry} {cl : Nat} (hg : w.heap[g]? = some (.map ents cl)) : (getObj g).run P w = .ok (.map ents cl) w := by
  simp [getObj, Sem.run, hg]

theorem run_checkKey_int {t : TypeId} {b : Bool} (ht : P.underlying t = some (.int .i64)) (k : Int) : (Instr.checkKey b 10000 t (.int .i64 k)).run P w = .ok () w := by
  rw [show (10000 : Nat) = 9999 + 1 from rfl, Instr.checkKey]
  simp [run_underlying ht]

theorem ilookup_sim (hw : RelW P w0 h μ w) {t : TypeId} {x x' i i' v : Value} {ok : Bool} (hx : RelV P w0.heap.size h μ x x') (hi : RelV P w0.heap.size h μ i i')
    (hr : ilookup P h t x i ok = some v) : ∃ u, (Instr.lookup t x' i' ok).run P w = .ok u w ∧ RelV P w0.heap.size h μ v u := by
  unfold ilookup at hr
  split at hr
  · rename_i kt et r k ht
    cases hi.int_inv
    split at hr
    · rename_i es hk hh
      obtain ⟨es', p, rfl, hh', hp⟩ := hx.map_inv
      rw [hh] at hh'
      cases hh'
      obtain ⟨ents, cl, hg, hE⟩ := map_get hw hh hp
      obtain ⟨inf, hinf, hr⟩ := Option.bind_eq_some_iff.1 hr
      obtain ⟨z, hz, hr⟩ := Option.bind_eq_some_iff.1 hr
      split at hr
      case isFalse => cases hr
      rename_i hpz
      have hfind : ∀ r', Instr.findNow (.int .i64) (.int .i64 k) ents.toList 0 = some r' → (Instr.findKey kt (.int .i64 k) ents.toList).run P w = .ok r' w := fun r' hr' => by
        simp [Instr.findKey, run_underlying hk, hr']
      rcases findNow_sim k es ents.toList 0 hE with ⟨h1, h2⟩ | ⟨v', u', j, m, h1, h2, h3, _⟩
      · rw [h1] at hr
        cases hr
        cases ok
        · exact ⟨z, by simp [Instr.lookup, run_underlying ht, run_getObj_map hg, run_checkKey_int hk, hfind _ h2, run_zeroValue hinf hz], .plain _ hpz⟩
        · exact ⟨.tuple #[z, .bool false], by simp [Instr.lookup, run_underlying ht, run_getObj_map hg, run_checkKey_int hk, hfind _ h2, run_zeroValue hinf hz], RelL.tuple (RelL.cons (.plain _ hpz) (RelL.cons (.plain _ rfl) RelL.nil))⟩
      · rw [h1] at hr
        cases hr
        cases ok
        · exact ⟨u', by simp [Instr.lookup, run_underlying ht, run_getObj_map hg, run_checkKey_int hk, hfind _ h2], h3⟩
        · exact ⟨.tuple #[u', .bool true], by simp [Instr.lookup, run_underlying ht, run_getObj_map hg, run_checkKey_int hk, hfind _ h2], RelL.tuple (RelL.cons h3 (RelL.cons (.plain _ rfl) RelL.nil))⟩
    · cases hr
  · cases hr

theorem mput_none (k : Int) (x : Value) : ∀ es, mfind k es = none → mput k x es = es ++ [(k, x)]
  | [], _ => rfl
  | e :: es, h => by
    simp only [mfind] at h
    split at h
    · cases h
    · rename_i hk; simp [mput, hk, mput_none k x es h]

theorem run_setObj_map {g : Nat} {ents : Array MapEntry} {cl : Nat} (o : Obj) (hg : w.heap[g]? = some (.map ents cl)) :
    (setObj g o).run P w = .ok () { w with heap := w.heap.setIfInBounds g o } := by
  simp [setObj, Sem.run, hg]

theorem imapUpdate_sim (hw : RelW P w0 h μ w) {t : TypeId} {x x' i i' v u : Value} (hx : RelV P w0.heap.size h μ x x') (hi : RelV P w0.heap.size h μ i i')
    (hv : RelV P w0.heap.size h μ v u) (hr : imapUpdate P h t x i v = some h') :
    ∃ w', (Instr.mapUpdate t x' i' u).run P w = .ok () w' ∧ RelW P w0 h' μ w' ∧ Ext h μ h' μ := by
  unfold imapUpdate at hr
  split at hr
  · rename_i kt et r k ht
    cases hi.int_inv
    split at hr
    · rename_i es hk hh
      cases hr
      obtain ⟨es', p, rfl, hh', hp⟩ := hx.map_inv
      rw [hh] at hh'
      cases hh'
      obtain ⟨ents, cl, hg, hE⟩ := map_get hw hh hp
      have hfind : ∀ r', Instr.findNow (.int .i64) (.int .i64 k) ents.toList 0 = some r' → (Instr.findKey kt (.int .i64 k) ents.toList).run P w = .ok r' w := fun r' hr' => by
        simp [Instr.findKey, run_underlying hk, hr']
      have hpl : p.1 < w.heap.size := (Array.getElem?_eq_some_iff.1 hg).1
      have fin : ∀ (es2 : List (Int × Value)) (ents2 : Array MapEntry) (cl2 : Nat), EntR P w0.heap.size h μ es2 ents2.toList →
          RelW P w0 (h.set r (.map es2)) μ { w with heap := w.heap.setIfInBounds p.1 (.map ents2 cl2) } ∧ Ext h μ (h.set r (.map es2)) μ := fun es2 ents2 cl2 hE2 => by
        refine hw.setObj hh hp (o' := .map es2) trivial rfl ?_ (fun q hq => by simp [Array.getElem?_setIfInBounds_ne (Ne.symm hq)]) ⟨ents2, cl2, by simp [hpl], by have := hE2.1; simpa using this.symm, fun j e he => ?_⟩
        · have hge := hw.ge _ _ hp
          exact ⟨hw.below.os, hw.below.tape, hw.below.output, by simpa using hw.below.size, fun q hq => by simp [Array.getElem?_setIfInBounds_ne (show p.1 ≠ q by omega)]; exact hw.below.block q hq⟩
        · have hj : j < ents2.size := by have := (List.getElem?_eq_some_iff.1 he).1; have := hE2.1; simp at this; omega
          obtain ⟨h1, h2⟩ := hE2.2 j e ents2[j] he (by simp [hj])
          exact ⟨ents2[j], by simp [hj], h1, h2⟩
      rcases findNow_sim k es ents.toList 0 hE with ⟨h1, h2⟩ | ⟨v', u', j, m, h1, h2, h3, h4, h5, h6⟩
      · refine ⟨_, by simp [Instr.mapUpdate, run_underlying ht, run_getObj_map hg, run_checkKey_int hk, hfind _ h2, run_setObj_map _ hg]; rfl, ?_⟩
        rw [mput_none k v es h1]
        refine fin _ _ _ ⟨by have := hE.1; simp at this ⊢; omega, fun q e m he hm => ?_⟩
        by_cases hq : q < es.length
        · rw [List.getElem?_append_left hq] at he
          have hq' : q < ents.toList.length := by rw [← hE.1]; exact hq
          rw [Array.toList_push, List.getElem?_append_left hq'] at hm
          exact hE.2 q e m he hm
        · rw [List.getElem?_append_right (by omega)] at he
          rw [Array.toList_push, List.getElem?_append_right (by rw [← hE.1]; omega), ← hE.1] at hm
          have : q - es.length = 0 := by have := (List.getElem?_eq_some_iff.1 he).1; simp at this; omega
          rw [this] at he hm
          simp at he hm
          subst he; subst hm
          exact ⟨rfl, hv⟩
      · rw [Nat.zero_add] at h2
        have hkey : (Instr.keyThatStays (((ents[j]?).map (·.key)).getD (.int .i64 k)) (.int .i64 k)).run P w = .ok (.int .i64 k) w := by
          rw [Array.getElem?_toList] at h4
          simp [h4, h5, Instr.keyThatStays, Instr.sameBits]
        refine ⟨_, by simp [Instr.mapUpdate, run_underlying ht, run_getObj_map hg, run_checkKey_int hk, hfind _ h2, hkey, run_setObj_map _ hg]; rfl, ?_⟩
        rw [h6]
        refine fin _ _ _ ⟨by have := hE.1; simp at this ⊢; omega, fun q e m' he hm => ?_⟩
        by_cases hq : j = q
        · subst hq
          rw [List.getElem?_set_self (by have := (List.getElem?_eq_some_iff.1 h4).1; rw [← hE.1] at this; exact this)] at he
          cases he
          rw [Array.getElem?_toList, Array.getElem?_modify, if_pos rfl] at hm
          rw [Array.getElem?_toList] at h4
          rw [h4] at hm
          simp at hm
          subst hm
          exact ⟨rfl, hv⟩
        · rw [List.getElem?_set_ne hq] at he
          rw [Array.getElem?_toList, Array.getElem?_modify, if_neg hq] at hm
          exact hE.2 q e m' he (by simpa using hm)
    · cases hr
  · cases hr

end
end Go.Ideal
namespace Go.Ideal
open Go.RowKit
section
variable {P : Program} {w0 w : World} {h h' h2 : Heap} {μ μ' μ2 : Mp} {B : Nat}

theorem RelG.toA {a a' : Addr} {n cap : Nat} (hg : RelG P h μ a a' n cap) : RelA B h μ a a' := by
  obtain ⟨g, cs, e1, g', h1, h2, h3, h4⟩ := hg
  unfold RelA
  simp only [h1]
  refine ⟨_, h3, ?_⟩
  rcases h4 with h4 | ⟨h4, p, s, hp, h5, _⟩
  · exact .inl h4
  · exact .inr ⟨h4.symm, p, hp, by rw [h2]; exact h5⟩

theorem RelV.slice_addr {a : Addr} {n c : Nat} {u : Value} (hv : RelV P B h μ (.slice (some a) n c) u) :
    ∃ a' cap, u = .slice (some a') n cap ∧ (n ≠ 0 → RelA B h μ a a') ∧ (c ≠ 0 → n ≤ cap) := by
  cases hv with
  | plain _ hp => simp [plainV] at hp
  | grow _ a' _ cap hg => exact ⟨a', cap, rfl, fun _ => hg.toA, fun h => absurd rfl h⟩
  | unk _ a' _ cap ha hn => exact ⟨a', cap, rfl, ha, fun _ => hn⟩
  | exact _ a' _ k ha hn => exact ⟨a', k, rfl, fun h => ha (by omega), fun _ => hn⟩

theorem run_bound {x x' : Value} {d l y : Nat} {code : BoundsCode} (hb : ibound (some x) d = some l) (hx : RelV P B h μ x x') (hle : l ≤ y) : (Instr.sliceBound x' y code).run P w = .ok l w := by
  unfold ibound at hb
  split at hb
  · cases ‹some x = none›
  · rename_i k i heq
    cases heq
    cases hx.int_inv
    split at hb
    · rename_i h0
      cases hb
      simp [Instr.sliceBound, asIntOf, h0]
      omega
    · cases hb
  · cases hb

/-- Related options. -/
def RelOp (P : Program) (B : Nat) (h : Heap) (μ : Mp) : Option Value → Option Value → Prop
  | none, none => True
  | some x, some y => RelV P B h μ x y
  | _, _ => False

theorem run_bounds2 {lo hi lo' hi' : Option Value} {len cap l u : Nat} {b : Bool} (hlo : RelOp P B h μ lo lo') (hhi : RelOp P B h μ hi hi')
    (hl : ibound lo 0 = some l) (hu : ibound hi len = some u) (h1 : l ≤ u) (h2 : u ≤ cap) :
    (Instr.sliceBounds b len cap lo' hi' none).run P w = .ok (l, u, cap) w := by
  have eh : ∀ y code, hi' = some y → (Instr.sliceBound y cap code).run P w = .ok u w := fun y code hy => by
    subst hy
    cases hi with
    | none => simp [RelOp] at hhi
    | some x => exact run_bound hu hhi h2
  have en : hi' = none → u = len := fun hn => by
    subst hn
    cases hi with
    | none => simp [ibound] at hu; exact hu.symm
    | some x => simp [RelOp] at hhi
  have el : ∀ y code, lo' = some y → (Instr.sliceBound y u code).run P w = .ok l w := fun y code hy => by
    subst hy
    cases lo with
    | none => simp [RelOp] at hlo
    | some x => exact run_bound hl hlo h1
  have eln : lo' = none → l = 0 := fun hn => by
    subst hn
    cases lo with
    | none => simp [ibound] at hl; exact hl.symm
    | some x => simp [RelOp] at hlo
  cases hi' with
  | none =>
    cases en rfl
    cases lo' with
    | none => cases eln rfl; simp [Instr.sliceBounds]
    | some y => simp [Instr.sliceBounds, el y _ rfl]
  | some x =>
    cases lo' with
    | none => cases eln rfl; simp [Instr.sliceBounds, eh x _ rfl]
    | some y => simp [Instr.sliceBounds, eh x _ rfl, el y _ rfl]

theorem run_bounds3 {lo hi lo' hi' : Option Value} {mx mx' : Value} {len cap l u q : Nat} {b : Bool} (hlo : RelOp P B h μ lo lo') (hhi : RelOp P B h μ hi hi') (hmx : RelV P B h μ mx mx')
    (hl : ibound lo 0 = some l) (hu : ibound hi len = some u) (hq : ibound (some mx) 0 = some q) (h1 : l ≤ u) (h2 : u ≤ q) (h3 : q ≤ cap) (hsome : hi.isSome) :
    (Instr.sliceBounds b len cap lo' hi' (some mx')).run P w = .ok (l, u, q) w := by
  have e0 : ∀ code, (Instr.sliceBound mx' cap code).run P w = .ok q w := fun code => run_bound hq hmx h3
  have eh : ∀ y code, hi' = some y → (Instr.sliceBound y q code).run P w = .ok u w := fun y code hy => by
    subst hy
    cases hi with
    | none => simp [RelOp] at hhi
    | some x => exact run_bound hu hhi h2
  have el : ∀ y code, lo' = some y → (Instr.sliceBound y u code).run P w = .ok l w := fun y code hy => by
    subst hy
    cases lo with
    | none => simp [RelOp] at hlo
    | some x => exact run_bound hl hlo h1
  have eln : lo' = none → l = 0 := fun hn => by
    subst hn
    cases lo with
    | none => simp [ibound] at hl; exact hl.symm
    | some x => simp [RelOp] at hlo
  cases hi' with
  | none => cases hi with
    | none => simp at hsome
    | some x => simp [RelOp] at hhi
  | some x =>
    cases lo' with
    | none => cases eln rfl; simp [Instr.sliceBounds, e0, eh x _ rfl]
    | some y => simp [Instr.sliceBounds, e0, eh x _ rfl, el y _ rfl]

theorem imakeSlice_sim (hw : RelW P w0 h μ w) {t : TypeId} {l l' c c' : Value} {r : IRes} (hl : RelV P w0.heap.size h μ l l') (hc : RelV P w0.heap.size h μ c c')
    (hr : imakeSlice P h t l c = some r) : Sim P w0 h μ w r ((do pure (.value (← Instr.makeSlice t l' c')) : Sem Next).run P w) := by
  unfold imakeSlice at hr
  split at hr
  · rename_i e n m ht
    cases hl.int_inv
    cases hc.int_inv
    obtain ⟨z, hz, hr⟩ := Option.bind_eq_some_iff.1 hr
    obtain ⟨i, hi, hr⟩ := Option.bind_eq_some_iff.1 hr
    obtain ⟨i', z0, hi', h0, hzc, hpl, hsz⟩ := izero_spec hz
    rw [hi] at hi'
    cases hi'
    split at hr
    · cases hr
    · rename_i hcond
      cases hr
      simp only [not_or] at hcond
      obtain ⟨c1, c2, c3, c4, c5⟩ := hcond
      have hz0 : z0.cells.size = i.size := by rw [← hsz, ← hzc]; simp
      have hrun := run_make (P := P) w t e i z0 ht hi h0 .i64 .i64 n m (by omega) (by omega) (by omega) (by omega)
      have hzz : RelL P w0.heap.size h μ (repl m.toNat z) (madeCells z0.cells (m.toNat * i.size)).toList := by
        rw [← hz0, repl_made _ (by rw [hz0, ← hsz]; exact c1), hzc]; exact (RelL.plain hpl).repl _
      refine irow_sim hw hzz n.toNat m.toNat (by omega) ?_
      simp [hrun]
  · cases hr

theorem ilenB_sim {t ty : TypeId} {x x' v : Value} (hx : RelV P B h μ x x') (hr : ilenB P t x = some v) : (Builtin.len_ #[t] ty #[x']).run P w = .ok v w ∧ plainV v = true := by
  unfold ilenB at hr
  split at hr
  · rename_i ht; cases hx.string_inv; cases hr; exact ⟨by simp [Builtin.len_, run_underlying ht, goInt], rfl⟩
  · rename_i ht; cases hr; exact ⟨by simp [Builtin.len_, run_underlying ht, goInt], rfl⟩
  · rename_i ht; obtain ⟨a', cap, rfl, _⟩ := hx.slice_inv; cases hr; exact ⟨by simp [Builtin.len_, run_underlying ht, goInt], rfl⟩
  · cases hr

theorem iminmaxFrom_sim (mx : Bool) (k : IntKind) : ∀ (xs xs' : List Value) (x : Int) (v : Value), RelL P B h μ xs xs' → iminmaxFrom mx k x xs = some v →
    (xs'.foldlM (if mx then Builtin.max2 else Builtin.min2) (.int k x)).run P w = .ok v w ∧ plainV v = true
  | [], xs', x, v, hl, hr => by
    have : xs' = [] := by have := hl.1; simpa using this.symm
    subst this
    simp [iminmaxFrom] at hr
    subst hr
    simp [plainV]
  | y :: ys, xs', x, v, hl, hr => by
    cases xs' with
    | nil => have := hl.1; simp at this
    | cons y' ys' =>
      have hy : RelV P B h μ y y' := hl.2 0 _ _ (by simp) (by simp)
      have hys : RelL P B h μ ys ys' := by simpa using hl.drop 1
      cases y <;> simp only [iminmaxFrom] at hr <;> try cases hr
      rename_i k' n
      cases hy.int_inv
      split at hr
      · rename_i hk
        subst hk
        have ih := iminmaxFrom_sim mx k ys ys' _ v hys hr
        cases mx <;> simpa [List.foldlM_cons, Builtin.max2, Builtin.min2] using ih
      · cases hr

theorem iminmax_sim (mx : Bool) {ts : Array TypeId} {ty : TypeId} {xs : List Value} {xs' : Array Value} {v : Value} (hl : RelL P B h μ xs xs'.toList) (hr : iminmax mx xs = some v) :
    (if mx then Builtin.max_ ts ty xs' else Builtin.min_ ts ty xs').run P w = .ok v w ∧ plainV v = true := by
  unfold iminmax at hr
  split at hr
  · rename_i k x r
    cases hxs : xs'.toList with
    | nil => rw [hxs] at hl; have := hl.1; simp at this
    | cons y ys =>
      rw [hxs] at hl
      have hy : RelV P B h μ (.int k x) y := hl.2 0 _ _ (by simp) (by simp)
      cases hy.int_inv
      have := iminmaxFrom_sim (w := w) mx k r ys x v (by simpa using hl.drop 1) hr
      cases mx <;> simpa [Builtin.max_, Builtin.min_, hxs] using this
  · cases hr

end
end Go.Ideal
namespace Go.Ideal
open Go.RowKit
section
variable {P : Program} {w0 w : World} {h h' h2 : Heap} {μ μ' μ2 : Mp} {B : Nat}

/-- The room that is told is there. -/
theorem icap_sim (hw : RelW P w0 h μ w) {a : Addr} {n c cp : Nat} {u : Value} (hv : RelV P w0.heap.size h μ (.slice (some a) n c) u) (hc : icap P h a n c = some cp) :
    ∃ a' cap, u = .slice (some a') n cap ∧ cp ≤ cap ∧ (n ≠ 0 → RelA w0.heap.size h μ a a') ∧ (cp ≠ 0 → RelA w0.heap.size h μ a a') ∧
      (∀ m, m ≤ cap → (c = 1 → m ≠ 0 → n ≠ 0) → RelV P w0.heap.size h μ (.slice (some a) m c) (.slice (some a') m cap)) ∧ (∀ k, c = k + 2 → cap = k) ∧ (c ≤ 1 → c ≠ 1 → RelA w0.heap.size h μ a a') := by
  cases hv with
  | plain _ hp => simp [plainV] at hp
  | grow _ a' _ cap hg =>
    obtain ⟨g, cs, e, g', h1, h2, h3, h4⟩ := hg
    simp only [icap, h1, h3] at hc
    obtain ⟨s, hs, hc⟩ := Option.bind_eq_some_iff.1 hc
    split at hc
    · rename_i hcond
      cases hc
      obtain ⟨rfl, h0, hs0⟩ := hcond
      rcases h4 with h4 | ⟨_, p, s', hp, ha', hs', hs0', hcap, hn, hmx⟩
      · omega
      · have hss : s = s' := by rw [hs] at hs'; exact Option.some.inj hs'
        subst hss
        obtain ⟨C, hC1, hC2, hC3, _⟩ := hw.obj _ _ _ h3 hp
        have hle : cs.length / s ≤ cap := by
          have : cs.length ≤ cap * s := by rw [hcap, ← hC2]; exact hC3
          exact Nat.div_le_of_le_mul (by rw [Nat.mul_comm]; exact this)
        have hA : RelA w0.heap.size h μ a a' := RelG.toA (n := n) (cap := cap) (P := P) ⟨g, cs, e, g, h1, h2, h3, .inr ⟨rfl, p, s, hp, ha', hs', hs0', hcap, hn, hmx⟩⟩
        exact ⟨a', cap, rfl, hle, fun _ => hA, fun _ => hA, fun m hm _ => .grow _ _ _ _ ⟨g, cs, e, g, h1, h2, h3, .inr ⟨rfl, p, s, hp, ha', hs', hs0', hcap, hm, hmx⟩⟩, fun k hk => by omega, fun _ _ => hA⟩
    · cases hc
  | unk _ a' _ cap ha hn =>
    simp [icap] at hc
    subst hc
    exact ⟨a', cap, rfl, hn, ha, ha, fun m hm h1 => .unk _ _ _ _ (fun h => ha (h1 rfl h)) hm, fun k hk => by omega, fun _ h => absurd rfl h⟩
  | exact _ a' _ k ha hn =>
    simp [icap] at hc
    subst hc
    exact ⟨a', k, rfl, Nat.le_refl _, fun h => ha (by omega), ha, fun m hm _ => .exact _ _ _ _ ha hm, fun k' hk => by omega, fun h _ => by omega⟩

theorem islice_sim (hw : RelW P w0 h μ w) {t : TypeId} {x x' v : Value} {lo hi mx lo' hi' mx' : Option Value} (hx : RelV P w0.heap.size h μ x x')
    (hlo : RelOp P w0.heap.size h μ lo lo') (hhi : RelOp P w0.heap.size h μ hi hi') (hmx : RelOp P w0.heap.size h μ mx mx') (hr : islice P h t x lo hi mx = some v) :
    ∃ u, (Instr.sliceAt t x' lo' hi' mx').run P w = .ok u w ∧ RelV P w0.heap.size h μ v u := by
  unfold islice at hr
  split at hr
  · -- a string
    rename_i s ht
    cases hx.string_inv
    have hmn : mx' = none := by cases mx' <;> simp_all [RelOp]
    subst hmn
    obtain ⟨l, hl, hr⟩ := Option.bind_eq_some_iff.1 hr
    obtain ⟨u, hu, hr⟩ := Option.bind_eq_some_iff.1 hr
    split at hr
    · rename_i hc
      cases hr
      have hb := run_bounds2 (w := w) (b := false) hlo hhi hl hu hc.1 hc.2
      refine ⟨.string (s.extract l u), ?_, .plain _ rfl⟩
      simp [Instr.sliceAt, Instr.slice, run_underlying ht, hb]
    · cases hr
  · -- a slice, two bounds
    rename_i e a len c ht
    have hmn : mx' = none := by cases mx' <;> simp_all [RelOp]
    subst hmn
    obtain ⟨n, hn, hr⟩ := Option.bind_eq_some_iff.1 hr
    obtain ⟨cp, hcp, hr⟩ := Option.bind_eq_some_iff.1 hr
    obtain ⟨l, hl, hr⟩ := Option.bind_eq_some_iff.1 hr
    obtain ⟨u, hu, hr⟩ := Option.bind_eq_some_iff.1 hr
    split at hr
    case isFalse => cases hr
    rename_i hc
    obtain ⟨hlu, hucp, hlc⟩ := hc
    obtain ⟨a', cap, rfl, hcc, hA1, hA2, hS, hE, hG⟩ := icap_sim hw hx hcp
    have hb := run_bounds2 (w := w) (b := true) hlo hhi hl hu hlu (Nat.le_trans hucp hcc)
    have hrun : (Instr.sliceAt t (.slice (some a') len cap) lo' hi' none).run P w = .ok (.slice (if cap = l then some a' else some (a'.add (l * n))) (u - l) (cap - l)) w := by
      simp only [Instr.sliceAt, Instr.slice, run_underlying ht, Sem.run_bind, Result.andThen_ok, hb, run_sizeOf hn, Sem.run_pure, Option.map_some]
    split at hr
    · rename_i h0
      cases hr
      subst h0
      refine ⟨_, hrun, ?_⟩
      have : (if cap = 0 then some a' else some (a'.add (0 * n))) = some a' := by rw [Nat.zero_mul, Addr.add_zero']; simp
      rw [this, Nat.sub_zero, Nat.sub_zero]
      refine hS u (Nat.le_trans hucp hcc) (fun h1 hu0 => ?_)
      subst h1
      simp [icap] at hcp
      omega
    · rename_i h0
      cases hr
      refine ⟨_, hrun, ?_⟩
      by_cases hcl : cap = l
      · have hul : u = l := by omega
        subst hul
        rw [if_pos hcl, hcl, Nat.sub_self]
        match c, hE with
        | 0, _ => exact .unk _ _ _ _ (fun h => absurd rfl h) (Nat.le_refl _)
        | 1, _ => exact .unk _ _ _ _ (fun h => absurd rfl h) (Nat.le_refl _)
        | k + 2, hE =>
          have hk := hE k rfl
          have : k - u = 0 := by omega
          simp only [this]
          exact .exact _ _ _ 0 (fun h => absurd rfl h) (Nat.le_refl _)
      · rw [if_neg hcl]
        match c, hE, hG, hcp with
        | 0, _, hG, _ => exact .unk _ _ _ _ (fun _ => (hG (by omega) (by omega)).shift _) (by omega)
        | 1, _, _, hcp =>
          simp [icap] at hcp
          exact .unk _ _ _ _ (fun h => (hA1 (by omega)).shift _) (by omega)
        | k + 2, hE, _, hcp =>
          have hk := hE k rfl
          simp [icap] at hcp
          subst hk
          exact .exact _ _ _ _ (fun h => (hA2 (by omega)).shift _) (by omega)
  · -- nil
    rename_i e ht
    have hmn : mx' = none := by cases mx' <;> simp_all [RelOp]
    subst hmn
    cases hx.plain_inv rfl
    obtain ⟨n, hn, hr⟩ := Option.bind_eq_some_iff.1 hr
    obtain ⟨l, hl, hr⟩ := Option.bind_eq_some_iff.1 hr
    obtain ⟨u, hu, hr⟩ := Option.bind_eq_some_iff.1 hr
    split at hr
    · rename_i hc
      cases hr
      obtain ⟨rfl, rfl⟩ := hc
      have hb := run_bounds2 (w := w) (b := true) (cap := 0) hlo hhi hl hu (Nat.le_refl _) (Nat.le_refl _)
      exact ⟨.slice none 0 0, by simp [Instr.sliceAt, Instr.slice, run_underlying ht, hb, run_sizeOf hn], .plain _ rfl⟩
    · cases hr
  · -- a slice, three bounds
    rename_i e a len c m ht
    cases hm' : mx' with
    | none => subst hm'; simp [RelOp] at hmx
    | some m' =>
    subst hm'
    obtain ⟨n, hn, hr⟩ := Option.bind_eq_some_iff.1 hr
    obtain ⟨cp, hcp, hr⟩ := Option.bind_eq_some_iff.1 hr
    obtain ⟨l, hl, hr⟩ := Option.bind_eq_some_iff.1 hr
    obtain ⟨u, hu, hr⟩ := Option.bind_eq_some_iff.1 hr
    obtain ⟨q, hq, hr⟩ := Option.bind_eq_some_iff.1 hr
    split at hr
    case isFalse => cases hr
    rename_i hc
    obtain ⟨hlu, huq, hqcp, hlc, hso⟩ := hc
    cases hr
    obtain ⟨a', cap, rfl, hcc, hA1, hA2, hS, hE, hG⟩ := icap_sim hw hx hcp
    have hb := run_bounds3 (w := w) (b := true) hlo hhi hmx hl hu hq hlu huq (Nat.le_trans hqcp hcc) hso
    have hrun : (Instr.sliceAt t (.slice (some a') len cap) lo' hi' (some m')).run P w = .ok (.slice (if q = l then some a' else some (a'.add (l * n))) (u - l) (q - l)) w := by
      simp only [Instr.sliceAt, Instr.slice, run_underlying ht, Sem.run_bind, Result.andThen_ok, hb, run_sizeOf hn, Sem.run_pure, Option.map_some]
    refine ⟨_, hrun, ?_⟩
    by_cases hql : q = l
    · rw [if_pos hql, hql, Nat.sub_self]
      have : u - l = 0 := by omega
      rw [this]
      exact .exact _ _ _ 0 (fun h => absurd rfl h) (Nat.le_refl _)
    · rw [if_neg hql]
      exact .exact _ _ _ _ (fun h => (hA2 (by omega)).shift _) (by omega)
  · -- an array
    rename_i n e a ht
    have hmn : mx' = none := by cases mx' <;> simp_all [RelOp]
    subst hmn
    obtain ⟨a', rfl, ha⟩ := hx.ptr_inv
    obtain ⟨k, hk, hr⟩ := Option.bind_eq_some_iff.1 hr
    obtain ⟨l, hl, hr⟩ := Option.bind_eq_some_iff.1 hr
    obtain ⟨u, hu, hr⟩ := Option.bind_eq_some_iff.1 hr
    split at hr
    case isFalse => cases hr
    rename_i hc
    cases hr
    have hb := run_bounds2 (w := w) (b := false) (cap := n) hlo hhi hl hu hc.1 hc.2
    have hrun : (Instr.sliceAt t (.pointer (some a')) lo' hi' none).run P w = .ok (.slice (some (if n = l then a' else a'.add (l * k))) (u - l) (n - l)) w := by
      simp only [Instr.sliceAt, run_underlying ht, Sem.run_bind, Result.andThen_ok, hb, run_sizeOf hk, Sem.run_pure, Instr.sureAddr]
    refine ⟨_, hrun, ?_⟩
    by_cases hql : n = l
    · rw [if_pos hql, hql, Nat.sub_self]
      have : u - l = 0 := by omega
      rw [this]
      exact .exact _ _ _ 0 (fun h => absurd rfl h) (Nat.le_refl _)
    · rw [if_neg hql]
      exact .exact _ _ _ _ (fun h => ha.shift _) (by omega)
  · -- an array, three bounds
    rename_i n e a m ht
    cases hm' : mx' with
    | none => subst hm'; simp [RelOp] at hmx
    | some m' =>
    subst hm'
    obtain ⟨a', rfl, ha⟩ := hx.ptr_inv
    obtain ⟨k, hk, hr⟩ := Option.bind_eq_some_iff.1 hr
    obtain ⟨l, hl, hr⟩ := Option.bind_eq_some_iff.1 hr
    obtain ⟨u, hu, hr⟩ := Option.bind_eq_some_iff.1 hr
    obtain ⟨q, hq, hr⟩ := Option.bind_eq_some_iff.1 hr
    split at hr
    case isFalse => cases hr
    rename_i hc
    cases hr
    obtain ⟨h1, h2, h3, hso⟩ := hc
    have hb := run_bounds3 (w := w) (b := false) (cap := n) hlo hhi hmx hl hu hq h1 h2 h3 hso
    have hrun : (Instr.sliceAt t (.pointer (some a')) lo' hi' (some m')).run P w = .ok (.slice (some (if q = l then a' else a'.add (l * k))) (u - l) (q - l)) w := by
      simp only [Instr.sliceAt, run_underlying ht, Sem.run_bind, Result.andThen_ok, hb, run_sizeOf hk, Sem.run_pure, Instr.sureAddr]
    refine ⟨_, hrun, ?_⟩
    by_cases hql : q = l
    · rw [if_pos hql, hql, Nat.sub_self]
      have : u - l = 0 := by omega
      rw [this]
      exact .exact _ _ _ 0 (fun h => absurd rfl h) (Nat.le_refl _)
    · rw [if_neg hql]
      exact .exact _ _ _ _ (fun h => ha.shift _) (by omega)
  · cases hr

end
end Go.Ideal
