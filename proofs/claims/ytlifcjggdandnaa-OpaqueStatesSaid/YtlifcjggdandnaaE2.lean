/- The relation between the ideal heap and the model's world; what looks and stores do to it. -/
import Derived.Test.YtlifcjggdandnaaE1
import Derived.Laws.CopyRow
namespace Go.Ideal
open Go.RowKit

/-- Where the ideal objects lie: the block, and how many cells it has. -/
abbrev Mp := List (Nat × Nat)

def RelA (B : Nat) (h : Heap) (μ : Mp) (a a' : Addr) : Prop :=
  match a.spot with
  | none => a' = a ∧ a.block < B
  | some g => ∃ o, h[a.block]? = some o ∧ (g < o.gen ∨ (o.gen = g ∧ ∃ p, μ[a.block]? = some p ∧ a' = ⟨p.1, a.off, none⟩))

def RelG (P : Program) (h : Heap) (μ : Mp) (a a' : Addr) (n cap : Nat) : Prop :=
  ∃ g cs e g', a.spot = some g ∧ a.off = 0 ∧ h[a.block]? = some (.row cs e g') ∧
    (g < g' ∨ (g = g' ∧ ∃ p s, μ[a.block]? = some p ∧ a' = ⟨p.1, 0, none⟩ ∧ tsize P e = some s ∧ s ≠ 0 ∧ cap * s = p.2 ∧ n ≤ cap ∧ cap ≤ maxLen))

inductive RelV (P : Program) (B : Nat) (h : Heap) (μ : Mp) : Value → Value → Prop
  | plain (v : Value) (hp : plainV v = true) : RelV P B h μ v v
  | ptr (a a' : Addr) (ha : RelA B h μ a a') : RelV P B h μ (.pointer (some a)) (.pointer (some a'))
  | grow (a a' : Addr) (n cap : Nat) (hg : RelG P h μ a a' n cap) : RelV P B h μ (.slice (some a) n 0) (.slice (some a') n cap)
  | unk (a a' : Addr) (n cap : Nat) (ha : n ≠ 0 → RelA B h μ a a') (hn : n ≤ cap) : RelV P B h μ (.slice (some a) n 1) (.slice (some a') n cap)
  | exact (a a' : Addr) (n k : Nat) (ha : k ≠ 0 → RelA B h μ a a') (hn : n ≤ k) : RelV P B h μ (.slice (some a) n (k + 2)) (.slice (some a') n k)
  | map (r : Nat) (es : List (Int × Value)) (p : Nat × Nat) (hr : h[r]? = some (.map es)) (hm : μ[r]? = some p) : RelV P B h μ (.map (some r)) (.map (some p.1))
  | func (f : Fn) (xs ys cs ds : Array Value) (hs : xs.size = ys.size) (hx : ∀ i (h1 : i < xs.size) (h2 : i < ys.size), RelV P B h μ xs[i] ys[i])
      (hs' : cs.size = ds.size) (hc : ∀ i (h1 : i < cs.size) (h2 : i < ds.size), RelV P B h μ cs[i] ds[i]) : RelV P B h μ (.func f xs cs) (.func f ys ds)
  | iface (t : TypeId) (v u : Value) (hv : RelV P B h μ v u) : RelV P B h μ (.iface t v) (.iface t u)
  | agg (xs ys : Array Value) (hs : xs.size = ys.size) (hx : ∀ i (h1 : i < xs.size) (h2 : i < ys.size), RelV P B h μ xs[i] ys[i]) : RelV P B h μ (.agg xs) (.agg ys)
  | tuple (xs ys : Array Value) (hs : xs.size = ys.size) (hx : ∀ i (h1 : i < xs.size) (h2 : i < ys.size), RelV P B h μ xs[i] ys[i]) : RelV P B h μ (.tuple xs) (.tuple ys)

/-- Lists of values, one by one. -/
def RelL (P : Program) (B : Nat) (h : Heap) (μ : Mp) (xs ys : List Value) : Prop :=
  xs.length = ys.length ∧ ∀ (i : Nat) (v u : Value), xs[i]? = some v → ys[i]? = some u → RelV P B h μ v u

def RelO (P : Program) (B : Nat) (h : Heap) (μ : Mp) (w : World) (o : IObj) (p : Nat × Nat) : Prop :=
  match o with
  | .row cs e _ => ∃ c : Array Value, w.heap[p.1]? = some (.cells c e (0, 0)) ∧ c.size = p.2 ∧ cs.length ≤ c.size ∧ ∀ (i : Nat) (v : Value), cs[i]? = some v → ∃ u, c[i]? = some u ∧ RelV P B h μ v u
  | .map es => ∃ (ents : Array MapEntry) (clock : Nat), w.heap[p.1]? = some (.map ents clock) ∧ ents.size = es.length ∧
      ∀ (i : Nat) (e : Int × Value), es[i]? = some e → ∃ m : MapEntry, ents[i]? = some m ∧ m.key = .int .i64 e.1 ∧ RelV P B h μ e.2 m.val

structure RelW (P : Program) (w0 : World) (h : Heap) (μ : Mp) (w : World) : Prop where
  len : μ.length = h.length
  inj : ∀ (i j : Nat) (p q : Nat × Nat), μ[i]? = some p → μ[j]? = some q → p.1 = q.1 → i = j
  ge : ∀ (i : Nat) (p : Nat × Nat), μ[i]? = some p → w0.heap.size ≤ p.1
  obj : ∀ (i : Nat) (o : IObj) (p : Nat × Nat), h[i]? = some o → μ[i]? = some p → RelO P w0.heap.size h μ w o p
  below : Below w0.heap.size w0 w

def kin : IObj → IObj → Prop
  | .row _ e _, .row _ e' _ => e = e'
  | .map _, .map _ => True
  | _, _ => False

/-- A later heap. -/
def Ext (h : Heap) (μ : Mp) (h' : Heap) (μ' : Mp) : Prop :=
  ∀ (i : Nat) (o : IObj), h[i]? = some o → ∃ o', h'[i]? = some o' ∧ kin o o' ∧ o.gen ≤ o'.gen ∧ (o'.gen = o.gen → μ'[i]? = μ[i]?)

section
variable {P : Program} {B : Nat} {h h' h2 : Heap} {μ μ' μ2 : Mp}

theorem kin.refl (o : IObj) : kin o o := by cases o <;> simp [kin]
theorem kin.trans {a b c : IObj} (h1 : kin a b) (h2 : kin b c) : kin a c := by
  cases a <;> cases b <;> cases c <;> simp_all [kin]

theorem Ext.refl (h : Heap) (μ : Mp) : Ext h μ h μ := fun _ o ho => ⟨o, ho, kin.refl o, Nat.le_refl _, fun _ => rfl⟩

theorem Ext.trans (e1 : Ext h μ h' μ') (e2 : Ext h' μ' h2 μ2) : Ext h μ h2 μ2 := by
  intro i o ho
  obtain ⟨o1, h1, k1, g1, m1⟩ := e1 i o ho
  obtain ⟨o2, h2, k2, g2, m2⟩ := e2 i o1 h1
  refine ⟨o2, h2, k1.trans k2, Nat.le_trans g1 g2, fun he => ?_⟩
  have : o2.gen = o1.gen := by omega
  rw [m2 this, m1 (by omega)]

theorem RelA.mono {a a' : Addr} (ha : RelA B h μ a a') (e : Ext h μ h' μ') : RelA B h' μ' a a' := by
  unfold RelA at *
  split at ha
  · exact ha
  · rename_i g _
    obtain ⟨o, ho, hc⟩ := ha
    obtain ⟨o', ho', _, hg, hm⟩ := e _ o ho
    refine ⟨o', ho', ?_⟩
    rcases hc with hc | ⟨hc, p, hp, ha⟩
    · exact .inl (by omega)
    · by_cases he : o'.gen = o.gen
      · exact .inr ⟨by omega, p, by rw [hm he]; exact hp, ha⟩
      · exact .inl (by omega)

theorem RelG.mono {a a' : Addr} {n cap : Nat} (ha : RelG P h μ a a' n cap) (e : Ext h μ h' μ') : RelG P h' μ' a a' n cap := by
  obtain ⟨g, cs, e1, g', h1, h2, h3, h4⟩ := ha
  obtain ⟨o', ho', hk, hg, hm⟩ := e _ _ h3
  cases o' with
  | map es => simp [kin] at hk
  | row cs' e2 g2 =>
    simp [kin] at hk
    subst hk
    simp [IObj.gen] at hg hm
    refine ⟨g, cs', e1, g2, h1, h2, ho', ?_⟩
    rcases h4 with h4 | ⟨h4, p, s, hp, h5⟩
    · exact .inl (by omega)
    · by_cases he : g2 = g'
      · exact .inr ⟨by omega, p, s, by rw [hm he]; exact hp, h5⟩
      · exact .inl (by omega)

theorem RelV.mono {v u : Value} (hv : RelV P B h μ v u) (e : Ext h μ h' μ') : RelV P B h' μ' v u := by
  induction hv with
  | plain v hp => exact .plain v hp
  | ptr a a' ha => exact .ptr a a' (ha.mono e)
  | grow a a' n cap hg => exact .grow a a' n cap (hg.mono e)
  | unk a a' n cap ha hn => exact .unk a a' n cap (fun h => (ha h).mono e) hn
  | exact a a' n k ha hn => exact .exact a a' n k (fun h => (ha h).mono e) hn
  | map r es p hr hm =>
    obtain ⟨o', ho', hk, hg, hm'⟩ := e _ _ hr
    cases o' with
    | row => simp [kin] at hk
    | map es' => exact .map r es' p ho' (by rw [hm' rfl]; exact hm)
  | func f xs ys cs ds hs _ hs' _ i1 i2 => exact .func f xs ys cs ds hs i1 hs' i2
  | iface t v u _ ih => exact .iface t v u ih
  | agg xs ys hs _ ih => exact .agg xs ys hs ih
  | tuple xs ys hs _ ih => exact .tuple xs ys hs ih

theorem RelL.mono {xs ys : List Value} (hl : RelL P B h μ xs ys) (e : Ext h μ h' μ') : RelL P B h' μ' xs ys :=
  ⟨hl.1, fun i v u h1 h2 => (hl.2 i v u h1 h2).mono e⟩

theorem RelL.nil : RelL P B h μ [] [] := ⟨rfl, by simp⟩
theorem RelL.cons {x y : Value} {xs ys : List Value} (h1 : RelV P B h μ x y) (h2 : RelL P B h μ xs ys) : RelL P B h μ (x :: xs) (y :: ys) := by
  refine ⟨by simp [h2.1], fun i v u hv hu => ?_⟩
  cases i with
  | zero => simp at hv hu; subst hv; subst hu; exact h1
  | succ i => simp at hv hu; exact h2.2 i v u hv hu
theorem RelL.append {xs ys xs' ys' : List Value} (h1 : RelL P B h μ xs ys) (h2 : RelL P B h μ xs' ys') : RelL P B h μ (xs ++ xs') (ys ++ ys') := by
  refine ⟨by simp [h1.1, h2.1], fun i v u hv hu => ?_⟩
  by_cases hi : i < xs.length
  · rw [List.getElem?_append_left hi] at hv
    rw [List.getElem?_append_left (by rw [← h1.1]; exact hi)] at hu
    exact h1.2 i v u hv hu
  · rw [List.getElem?_append_right (by omega)] at hv
    rw [List.getElem?_append_right (by rw [← h1.1]; omega), ← h1.1] at hu
    exact h2.2 _ v u hv hu
theorem RelL.take {xs ys : List Value} (n : Nat) (h1 : RelL P B h μ xs ys) : RelL P B h μ (xs.take n) (ys.take n) := by
  refine ⟨by simp [h1.1], fun i v u hv hu => ?_⟩
  rw [List.getElem?_take] at hv hu
  split at hv
  · simp_all only [if_true]; exact h1.2 i v u hv hu
  · simp at hv
theorem RelL.drop {xs ys : List Value} (n : Nat) (h1 : RelL P B h μ xs ys) : RelL P B h μ (xs.drop n) (ys.drop n) := by
  refine ⟨by simp [h1.1], fun i v u hv hu => ?_⟩
  rw [List.getElem?_drop] at hv hu
  exact h1.2 _ v u hv hu
theorem RelL.splice {xs ys vs us : List Value} (n : Nat) (h1 : RelL P B h μ xs ys) (h2 : RelL P B h μ vs us) : RelL P B h μ (splice xs n vs) (Go.Ideal.splice ys n us) := by
  unfold Go.Ideal.splice
  rw [h2.1]
  exact ((h1.take _).append h2).append (h1.drop _)
theorem RelL.plain {xs : List Value} (hp : xs.all plainV = true) : RelL P B h μ xs xs := by
  refine ⟨rfl, fun i v u hv hu => ?_⟩
  rw [hv] at hu; cases hu
  exact .plain v (List.all_eq_true.1 hp v (List.mem_of_getElem? hv))
theorem RelL.agg {xs ys : Array Value} (h1 : RelL P B h μ xs.toList ys.toList) : RelV P B h μ (.agg xs) (.agg ys) :=
  .agg xs ys (by simpa using h1.1) fun i h2 h3 => h1.2 i _ _ (by simp [h2]) (by simp [h3])
theorem RelL.tuple {xs ys : Array Value} (h1 : RelL P B h μ xs.toList ys.toList) : RelV P B h μ (.tuple xs) (.tuple ys) :=
  .tuple xs ys (by simpa using h1.1) fun i h2 h3 => h1.2 i _ _ (by simp [h2]) (by simp [h3])
theorem relL_of {xs ys : Array Value} (hs : xs.size = ys.size) (hx : ∀ i (h1 : i < xs.size) (h2 : i < ys.size), RelV P B h μ xs[i] ys[i]) : RelL P B h μ xs.toList ys.toList := by
  refine ⟨by simpa using hs, fun i v u hv hu => ?_⟩
  rw [Array.getElem?_toList] at hv hu
  obtain ⟨h1, rfl⟩ := Array.getElem?_eq_some_iff.1 hv
  obtain ⟨h2, rfl⟩ := Array.getElem?_eq_some_iff.1 hu
  exact hx i h1 h2
theorem RelV.agg_inv {xs : Array Value} {u : Value} (hv : RelV P B h μ (.agg xs) u) : ∃ ys, u = .agg ys ∧ RelL P B h μ xs.toList ys.toList := by
  cases hv with
  | plain _ hp => simp [plainV] at hp
  | agg _ ys hs hx => exact ⟨ys, rfl, relL_of hs hx⟩
theorem RelV.tuple_inv {xs : Array Value} {u : Value} (hv : RelV P B h μ (.tuple xs) u) : ∃ ys, u = .tuple ys ∧ RelL P B h μ xs.toList ys.toList := by
  cases hv with
  | plain _ hp => simp [plainV] at hp
  | tuple _ ys hs hx => exact ⟨ys, rfl, relL_of hs hx⟩
theorem RelV.plain_inv {v u : Value} (hv : RelV P B h μ v u) (hp : plainV v = true) : u = v := by
  cases hv <;> first | rfl | (simp [plainV] at hp)
theorem RelV.int_inv {k : IntKind} {n : Int} {u : Value} (hv : RelV P B h μ (.int k n) u) : u = .int k n := hv.plain_inv rfl
theorem RelV.bool_inv {b : Bool} {u : Value} (hv : RelV P B h μ (.bool b) u) : u = .bool b := hv.plain_inv rfl
theorem RelV.string_inv {b : ByteArray} {u : Value} (hv : RelV P B h μ (.string b) u) : u = .string b := hv.plain_inv rfl
theorem RelV.ptr_inv {a : Addr} {u : Value} (hv : RelV P B h μ (.pointer (some a)) u) : ∃ a', u = .pointer (some a') ∧ RelA B h μ a a' := by
  cases hv with
  | plain _ hp => simp [plainV] at hp
  | ptr _ a' ha => exact ⟨a', rfl, ha⟩
theorem RelV.leaf {v u : Value} (hv : RelV P B h μ v u) (hl : leaf v = true) : u.oneCell' = true := by
  cases hv <;> simp_all [Go.Ideal.leaf, Value.oneCell']
  rename_i hp
  cases v <;> simp_all [plainV]
theorem RelL.leafs {xs ys : List Value} (hl : RelL P B h μ xs ys) (ha : xs.all Go.Ideal.leaf = true) : ∀ v ∈ ys, v.oneCell' = true := by
  intro v hv
  obtain ⟨i, hi⟩ := List.mem_iff_getElem?.1 hv
  have hlt : i < xs.length := by rw [hl.1]; exact (List.getElem?_eq_some_iff.1 hi).1
  exact (hl.2 i _ v (List.getElem?_eq_getElem hlt) hi).leaf (List.all_eq_true.1 ha _ (List.getElem_mem hlt))
theorem vcells_plain {v : Value} (hp : plainV v = true) : vcells v = [v] := by
  cases v <;> first | rfl | (simp [plainV] at hp)
/-- The cells of related values. -/
theorem RelV.cells {v u : Value} (hv : RelV P B h μ v u) : RelL P B h μ (vcells v) (vcells u) := by
  cases hv with
  | agg xs ys hs hx => exact relL_of hs hx
  | plain _ hp => rw [vcells_plain hp]; exact RelL.cons (.plain _ hp) RelL.nil
  | _ => exact RelL.cons (by constructor <;> assumption) RelL.nil

end
end Go.Ideal
namespace Go.Ideal
open Go.RowKit
section
variable {P : Program} {w0 w : World} {h h' h2 : Heap} {μ μ' μ2 : Mp}

theorem impV_rel {x v : Value} (hi : impV w0.heap.size x = some v) : RelV P w0.heap.size h μ v x := by
  unfold impV at hi
  split at hi
  all_goals first
    | (cases hi; exact .plain _ rfl)
    | (cases hi; done)
    | skip
  · rename_i a
    split at hi
    · rename_i hc
      cases hi
      simp only [Bool.and_eq_true, decide_eq_true_eq, Option.isNone_iff_eq_none] at hc
      refine .ptr _ _ ?_
      unfold RelA
      rw [hc.1]
      exact ⟨rfl, hc.2⟩
    · cases hi
  · rename_i a n c
    split at hi
    · rename_i hn
      cases hi
      subst hn
      exact .unk _ _ _ _ (fun hh => absurd rfl hh) (Nat.zero_le _)
    · split at hi
      · rename_i hc
        cases hi
        simp only [Bool.and_eq_true, decide_eq_true_eq, Option.isNone_iff_eq_none] at hc
        refine .unk _ _ _ _ (fun _ => ?_) hc.2
        unfold RelA
        rw [hc.1.1]
        exact ⟨rfl, hc.1.2⟩
      · cases hi

theorem RelW.base_cell (hw : RelW P w0 h μ w) {a : Addr} {x : Value} (hx : w0.cell? a = some x) : w.cell? a = some x :=
  (hw.below.cell (World.block_lt_of_cell? w0 a hx)).trans hx

theorem RelA.shift {B : Nat} {a a' : Addr} (ha : RelA B h μ a a') (n : Nat) : RelA B h μ (ush a n) (a'.add n) := by
  unfold RelA at *
  cases hs : a.spot with
  | none =>
    simp only [hs] at ha
    simp only [ush, hs]
    obtain ⟨rfl, hb⟩ := ha
    refine ⟨?_, hb⟩
    unfold Addr.add
    split
    · subst_vars; cases a'; simp_all
    · simp
  | some g =>
    simp only [hs] at ha
    simp only [ush, hs]
    obtain ⟨o, ho, hc⟩ := ha
    refine ⟨o, ho, ?_⟩
    rcases hc with hc | ⟨hc, p, hp, rfl⟩
    · exact .inl hc
    · refine .inr ⟨hc, p, hp, ?_⟩
      unfold Addr.add
      split
      · subst_vars; simp
      · simp

/-- Where a fresh address leads. -/
theorem RelA.new_inv {B : Nat} {a a' : Addr} {g : Nat} {cs : List Value} {e : TypeId} (ha : RelA B h μ a a') (hs : a.spot = some g) (ho : h[a.block]? = some (.row cs e g)) :
    ∃ p, μ[a.block]? = some p ∧ a' = ⟨p.1, a.off, none⟩ := by
  unfold RelA at ha
  simp only [hs] at ha
  obtain ⟨o, ho', hc⟩ := ha
  rw [ho] at ho'
  cases ho'
  rcases hc with hc | ⟨_, p, hp, rfl⟩
  · simp [IObj.gen] at hc
  · exact ⟨p, hp, rfl⟩

theorem rd_sim (hw : RelW P w0 h μ w) {a a' : Addr} (ha : RelA w0.heap.size h μ a a') {v : Value} (hr : rd w0 h a = some v) :
    ∃ u, w.cell? a' = some u ∧ RelV P w0.heap.size h μ v u := by
  unfold rd at hr
  cases hs : a.spot with
  | none =>
    simp only [hs] at hr
    unfold RelA at ha
    simp only [hs] at ha
    obtain ⟨rfl, _⟩ := ha
    obtain ⟨x, hx, hi⟩ := Option.bind_eq_some_iff.1 hr
    exact ⟨x, hw.base_cell hx, impV_rel hi⟩
  | some g =>
    simp only [hs] at hr
    cases ho : h[a.block]? with
    | none => simp [ho] at hr
    | some o =>
      cases o with
      | map es => simp [ho] at hr
      | row cs e g' =>
        simp only [ho] at hr
        split at hr
        · rename_i hg
          subst hg
          obtain ⟨p, hp, rfl⟩ := ha.new_inv hs ho
          obtain ⟨c, hc, _, _, hcell⟩ := hw.obj _ _ _ ho hp
          obtain ⟨u, hu, hv⟩ := hcell _ _ hr
          exact ⟨u, by simp [World.cell?, hc, hu], hv⟩
        · cases hr

theorem rdBase_sim (hw : RelW P w0 h μ w) : ∀ (n : Nat) (a : Addr) (l : List Value), a.spot = none → rdBase w0 a n = some l →
    ∃ l', RelL P w0.heap.size h μ l l' ∧ l.length = n ∧ ∀ (j : Nat) (u : Value), l'[j]? = some u → w.cell? (a.add j) = some u
  | 0, a, l, _, hr => by
    simp [rdBase] at hr
    subst hr
    exact ⟨[], .nil, rfl, by simp⟩
  | n + 1, a, l, hs, hr => by
    simp only [rdBase] at hr
    obtain ⟨v, hv, hr⟩ := Option.bind_eq_some_iff.1 hr
    obtain ⟨x, hx, hi⟩ := Option.bind_eq_some_iff.1 hv
    obtain ⟨l2, hl2, rfl⟩ := Option.map_eq_some_iff.1 hr
    obtain ⟨l', hl', hn, hc⟩ := rdBase_sim hw n (ush a 1) l2 hs hl2
    refine ⟨x :: l', .cons (impV_rel hi) hl', by simp [hn], fun j u hj => ?_⟩
    cases j with
    | zero => simp at hj; subst hj; rw [Addr.add_zero']; exact hw.base_cell hx
    | succ j =>
      simp at hj
      have := hc j u hj
      rw [← this]
      congr 1
      obtain ⟨b, o, s⟩ := a
      simp only at hs
      subst hs
      cases j <;> simp [Addr.add, ush, Nat.add_assoc, Nat.add_comm 1]

theorem rdN_sim (hw : RelW P w0 h μ w) {a a' : Addr} (ha : RelA w0.heap.size h μ a a') {n : Nat} {l : List Value} (hr : rdN w0 h a n = some l) :
    ∃ l', RelL P w0.heap.size h μ l l' ∧ l.length = n ∧ ∀ (j : Nat) (u : Value), l'[j]? = some u → w.cell? (a'.add j) = some u := by
  unfold rdN at hr
  cases hs : a.spot with
  | none =>
    simp only [hs] at hr
    unfold RelA at ha
    simp only [hs] at ha
    obtain ⟨rfl, _⟩ := ha
    exact rdBase_sim hw n a' l hs hr
  | some g =>
    simp only [hs] at hr
    cases ho : h[a.block]? with
    | none => simp [ho] at hr
    | some o =>
      cases o with
      | map es => simp [ho] at hr
      | row cs e g' =>
        simp only [ho] at hr
        split at hr
        · rename_i hg
          subst hg
          split at hr
          · rename_i hle
            cases hr
            obtain ⟨p, hp, rfl⟩ := ha.new_inv hs ho
            obtain ⟨c, hc, hsz, hcs, hcell⟩ := hw.obj _ _ _ ho hp
            refine ⟨(c.toList.drop a.off).take n, ⟨by simp; omega, fun i v u hv hu => ?_⟩, by simp; omega, fun j u hj => ?_⟩
            · rw [List.getElem?_take] at hv hu
              split at hv
              · rename_i hi
                simp only [hi, if_true] at hu
                rw [List.getElem?_drop] at hv hu
                obtain ⟨u', hu', hrel⟩ := hcell _ _ hv
                rw [Array.getElem?_toList, hu'] at hu
                cases hu
                exact hrel
              · cases hv
            · rw [List.getElem?_take] at hj
              split at hj
              · rw [List.getElem?_drop, Array.getElem?_toList] at hj
                rw [show (⟨p.1, a.off, none⟩ : Addr).add j = ⟨p.1, a.off + j, none⟩ by unfold Addr.add; split <;> simp_all]
                simp [World.cell?, hc, hj]
              · cases hj
          · cases hr
        · cases hr

theorem run_sizeOf {t : TypeId} {n : Nat} (hn : tsize P t = some n) : (sizeOf t).run P w = .ok n w := by
  unfold tsize at hn
  obtain ⟨i, hi, rfl⟩ := Option.map_eq_some_iff.1 hn
  simp [sizeOf, typeInfo, hi]

theorem run_isAgg {t : TypeId} {b : Bool} (hb : aggT P t = some b) : (isAgg t).run P w = .ok b w := by
  unfold aggT at hb
  unfold isAgg
  cases hu : P.underlying t with
  | none => simp [hu] at hb
  | some d =>
    simp only [hu] at hb
    cases d <;> simp_all [run_underlying hu] <;> subst hb <;> simp

theorem iload_sim (hw : RelW P w0 h μ w) {a a' : Addr} (ha : RelA w0.heap.size h μ a a') {t : TypeId} {v : Value} (hr : iload P w0 h t a = some v) :
    ∃ u, (loadVar t a').run P w = .ok u w ∧ RelV P w0.heap.size h μ v u := by
  unfold iload at hr
  cases hb : aggT P t with
  | none => simp [hb] at hr
  | some b =>
    cases b with
    | true =>
      simp only [hb] at hr
      obtain ⟨n, hn, hr⟩ := Option.bind_eq_some_iff.1 hr
      obtain ⟨l, hl, rfl⟩ := Option.map_eq_some_iff.1 hr
      obtain ⟨l', hl', hlen, hc⟩ := rdN_sim hw ha hl
      have := run_loadCells_list (P := P) w a' l' hc
      rw [← hl'.1, hlen] at this
      refine ⟨.agg l'.toArray, ?_, RelL.agg (by simpa using hl')⟩
      simp [loadVar, run_isAgg hb, run_sizeOf hn, this]
    | false =>
      simp only [hb] at hr
      obtain ⟨u, hu, hv⟩ := rd_sim hw ha hr
      exact ⟨u, by simp [loadVar, run_isAgg hb, hu], hv⟩

/-! ### What becomes of the relation -/

theorem RelO.mono {B : Nat} {o : IObj} {p : Nat × Nat} (ho : RelO P B h μ w o p) (e : Ext h μ h' μ') : RelO P B h' μ' w o p := by
  cases o with
  | row cs t g =>
    obtain ⟨c, h1, h2, h3, h4⟩ := ho
    exact ⟨c, h1, h2, h3, fun i v hv => let ⟨u, hu, hr⟩ := h4 i v hv; ⟨u, hu, hr.mono e⟩⟩
  | map es =>
    obtain ⟨ents, cl, h1, h2, h3⟩ := ho
    exact ⟨ents, cl, h1, h2, fun i v hv => let ⟨u, hu, hk, hr⟩ := h3 i v hv; ⟨u, hu, hk, hr.mono e⟩⟩

theorem RelO.world {B : Nat} {o : IObj} {p : Nat × Nat} {w' : World} (ho : RelO P B h μ w o p) (e : w'.heap[p.1]? = w.heap[p.1]?) : RelO P B h μ w' o p := by
  cases o <;> simpa [RelO, e] using ho

theorem RelW.drew (hw : RelW P w0 h μ w) : RelW P w0 h μ w.drew :=
  ⟨hw.len, hw.inj, hw.ge, fun i o p h1 h2 => (hw.obj i o p h1 h2).world rfl, ⟨hw.below.os, hw.below.tape, hw.below.output, hw.below.size, hw.below.block⟩⟩

theorem RelW.map_lt (hw : RelW P w0 h μ w) {i : Nat} {o : IObj} (ho : h[i]? = some o) : ∃ p, μ[i]? = some p := by
  have : i < μ.length := by rw [hw.len]; exact (List.getElem?_eq_some_iff.1 ho).1
  exact ⟨_, List.getElem?_eq_getElem this⟩

theorem RelW.block_lt (hw : RelW P w0 h μ w) {i : Nat} {o : IObj} {p : Nat × Nat} (ho : h[i]? = some o) (hp : μ[i]? = some p) : p.1 < w.heap.size := by
  have := hw.obj i o p ho hp
  cases o with
  | row cs t g => obtain ⟨c, h1, _⟩ := this; exact (Array.getElem?_eq_some_iff.1 h1).1
  | map es => obtain ⟨c, _, h1, _⟩ := this; exact (Array.getElem?_eq_some_iff.1 h1).1

theorem ext_set {i : Nat} {o o' : IObj} (ho : h[i]? = some o) (hk : kin o o') (hg : o.gen = o'.gen) : Ext h μ (h.set i o') μ := by
  intro j q hq
  by_cases hij : i = j
  · subst hij
    rw [ho] at hq
    cases hq
    exact ⟨o', by rw [List.getElem?_set_self (List.getElem?_eq_some_iff.1 ho).1], hk, by omega, fun _ => rfl⟩
  · exact ⟨q, by rw [List.getElem?_set_ne hij]; exact hq, kin.refl q, Nat.le_refl _, fun _ => rfl⟩

theorem ext_push {o : IObj} {p : Nat × Nat} (hl : μ.length = h.length) : Ext h μ (h ++ [o]) (μ ++ [p]) := by
  intro j q hq
  have hj : j < h.length := (List.getElem?_eq_some_iff.1 hq).1
  exact ⟨q, by rw [List.getElem?_append_left hj]; exact hq, kin.refl q, Nat.le_refl _, fun _ => by rw [List.getElem?_append_left (by omega)]⟩

/-- An object is changed in place. -/
theorem RelW.setObj (hw : RelW P w0 h μ w) {i : Nat} {o o' : IObj} {p : Nat × Nat} {w' : World} (ho : h[i]? = some o) (hp : μ[i]? = some p) (hk : kin o o') (hg : o.gen = o'.gen)
    (hb : Below w0.heap.size w0 w') (hother : ∀ k, k ≠ p.1 → w'.heap[k]? = w.heap[k]?) (hobj : RelO P w0.heap.size h μ w' o' p) :
    RelW P w0 (h.set i o') μ w' ∧ Ext h μ (h.set i o') μ := by
  have he : Ext h μ (h.set i o') μ := ext_set ho hk hg
  refine ⟨⟨by simpa using hw.len, hw.inj, hw.ge, fun j q r hq hr => ?_, hb⟩, he⟩
  by_cases hij : i = j
  · subst hij
    rw [List.getElem?_set_self (List.getElem?_eq_some_iff.1 ho).1] at hq
    cases hq
    rw [hp] at hr
    cases hr
    exact hobj.mono he
  · rw [List.getElem?_set_ne hij] at hq
    exact ((hw.obj j q r hq hr).world (hother _ fun hx => hij (hw.inj _ _ _ _ hp hr hx.symm))).mono he

theorem below_alloc' (hb : Below w0.heap.size w0 w) (O : Obj) : Below w0.heap.size w0 (w.alloc O) := hb.alloc hb.size O

/-- A new object. -/
theorem RelW.push (hw : RelW P w0 h μ w) {o : IObj} {O : Obj} {n : Nat} (hobj : RelO P w0.heap.size h μ (w.alloc O) o (w.heap.size, n)) :
    RelW P w0 (h ++ [o]) (μ ++ [(w.heap.size, n)]) (w.alloc O) ∧ Ext h μ (h ++ [o]) (μ ++ [(w.heap.size, n)]) := by
  have he : Ext h μ (h ++ [o]) (μ ++ [(w.heap.size, n)]) := ext_push hw.len
  have hbl : ∀ (i : Nat) (p : Nat × Nat), μ[i]? = some p → p.1 < w.heap.size := fun i p hp => by
    have hi : i < h.length := by rw [← hw.len]; exact (List.getElem?_eq_some_iff.1 hp).1
    exact hw.block_lt (List.getElem?_eq_getElem hi) hp
  have hnew : ∀ (i : Nat) (p : Nat × Nat), (μ ++ [(w.heap.size, n)])[i]? = some p → (i < μ.length ∧ μ[i]? = some p) ∨ (i = μ.length ∧ p = (w.heap.size, n)) := fun i p hp => by
    by_cases hi : i < μ.length
    · rw [List.getElem?_append_left hi] at hp; exact .inl ⟨hi, hp⟩
    · rw [List.getElem?_append_right (by omega)] at hp
      have : i - μ.length = 0 := by
        have := (List.getElem?_eq_some_iff.1 hp).1
        simp at this; omega
      rw [this] at hp
      simp at hp
      exact .inr ⟨by omega, hp.symm⟩
  refine ⟨⟨by simp [hw.len], fun i j p q hp hq hpq => ?_, fun i p hp => ?_, fun i q p hq hp => ?_, below_alloc' hw.below O⟩, he⟩
  · rcases hnew i p hp with ⟨_, h1⟩ | ⟨h1, rfl⟩ <;> rcases hnew j q hq with ⟨_, h2⟩ | ⟨h2, rfl⟩
    · exact hw.inj i j p q h1 h2 hpq
    · have := hbl i p h1; simp at hpq; omega
    · have := hbl j q h2; simp at hpq; omega
    · omega
  · rcases hnew i p hp with ⟨_, h1⟩ | ⟨_, rfl⟩
    · exact hw.ge i p h1
    · exact hw.below.size
  · rcases hnew i p hp with ⟨hi, h1⟩ | ⟨h1, rfl⟩
    · rw [List.getElem?_append_left (by rw [← hw.len]; exact hi)] at hq
      refine ((hw.obj i q p hq h1).world ?_).mono he
      have := hbl i p h1
      show (w.heap.push O)[p.1]? = _
      rw [Array.getElem?_push_lt this, Array.getElem?_eq_getElem this]
    · rw [h1, hw.len, List.getElem?_append_right (Nat.le_refl _)] at hq
      simp at hq
      subst hq
      exact hobj.mono he

end
end Go.Ideal
