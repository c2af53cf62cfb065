/- What is handed in, read as data, lies there for the ideal machine to read. -/
import Derived.Test.YtlifcjggdandnaaE32
import Derived.SizedLaws
import Derived.ChangeArms
import Derived.DataReads
namespace Go.Ideal
open Go.ChangeShapes
section
variable {H : Type} {enc : TypeId × Value → H} {P : Program} {W : World} {sp : Nat → Bool} {held : Bool}

theorem add_ush {a : Addr} (hs : a.spot = none) (i : Nat) : a.add i = ush a i := by
  obtain ⟨b, o, s⟩ := a
  simp only at hs
  subst hs
  unfold Addr.add ush
  by_cases hi : i = 0 <;> simp [hi]

def imps (B : Nat) : List Value → Option (List Value)
  | [] => some []
  | v :: r => (impV B v).bind fun v' => (imps B r).map (v' :: ·)

theorem rdBase_of : ∀ (n : Nat) (a : Addr) (cs cs' : List Value), cs.length = n → a.spot = none → (∀ i, i < n → W.cell? (ush a i) = cs[i]?) → imps W.heap.size cs = some cs' → rdBase W a n = some cs'
  | 0, a, cs, cs', hl, _, _, hi => by
    have := List.length_eq_zero_iff.1 hl
    subst this
    simp [imps] at hi
    subst hi
    rfl
  | n + 1, a, [], cs', hl, _, _, _ => by simp at hl
  | n + 1, a, v :: r, cs', hl, hs, hc, hi => by
    simp only [imps] at hi
    obtain ⟨v', hv, hi⟩ := Option.bind_eq_some_iff.1 hi
    obtain ⟨r', hr, rfl⟩ := Option.map_eq_some_iff.1 hi
    have h0 := hc 0 (by omega)
    simp at h0
    have := rdBase_of n (ush a 1) r r' (by simpa using hl) hs (fun i hi => by
      have := hc (i + 1) (by omega)
      rw [ush_ush, Nat.add_comm 1 i, this]
      rfl) hr
    simp [rdBase, h0, hv, this]

theorem imps_len : ∀ (cs cs' : List Value) (B : Nat), imps B cs = some cs' → cs'.length = cs.length
  | [], cs', B, h => by simp [imps] at h; subst h; rfl
  | v :: r, cs', B, h => by
    simp only [imps] at h
    obtain ⟨v', _, h⟩ := Option.bind_eq_some_iff.1 h
    obtain ⟨r', hr, rfl⟩ := Option.map_eq_some_iff.1 h
    simp [imps_len r r' B hr]

/-- A slice that is handed in: its elements' cells, and how they read. -/
theorem open_base {t e : TypeId} {k : Nat} (ht : P.underlying t = some (.slice e)) (hk : P.cellsOf e = k) (hk0 : 0 < k) {fuel : Nat} {cs : List Value} {x : DataW H × List MemPlace} (h : DataW.trod enc P W 0 sp held fuel t cs = some x) :
    ∃ v v', cs = [v] ∧ impV W.heap.size v = some v' ∧ leaf v' = true ∧ ∃ (rows0 : List (List Value)) (ys : List (DataW H × List MemPlace)), ((x.1 = .nil ∧ ys = []) ∨ ∃ rest, x.1 = .slice (ys.map (·.1)) rest) ∧ rows0.length = ys.length ∧
      (∀ (i : Nat) (r0 : List Value) (y : DataW H × List MemPlace), rows0[i]? = some r0 → ys[i]? = some y → r0.length = k ∧ ∃ n, DataW.trod enc P W 0 sp held n e r0 = some y) ∧
      (∀ rows : List (List Value), rows.length = rows0.length → (∀ (i : Nat) (r0 r : List Value), rows0[i]? = some r0 → rows[i]? = some r → imps W.heap.size r0 = some r) → ∀ h : Heap, Sl W h v' k rows) := by
  rcases DataW.trod_slice ht h with ⟨rfl, rfl⟩ | ⟨a, len, cap, elems, rest, n, hf, rfl, rfl, hb, hl, hm, hel, hat, _⟩
  · refine ⟨_, _, rfl, rfl, rfl, [], [], .inl ⟨rfl, rfl⟩, rfl, by simp, fun rows hr _ h => ?_⟩
    have := List.length_eq_zero_iff.1 hr
    subst this
    exact .inl ⟨rfl, rfl⟩
  · rw [hk] at hat
    have hcell : ∀ i, i < len → ∃ r0, W.cells? 0 (a.add (i * k)) k = some r0 ∧ DataW.trod enc P W 0 sp held n e r0 = elems[i]? := by
      intro i hi
      have h1 := hat i hi
      have : ∃ y, elems[i]? = some y := ⟨elems[i], List.getElem?_eq_getElem (by omega)⟩
      obtain ⟨y, hy⟩ := this
      rw [hy] at h1
      obtain ⟨r0, h2, h3⟩ := Option.bind_eq_some_iff.1 h1
      exact ⟨r0, h2, by rw [hy]; exact h3⟩
    by_cases h0 : len = 0
    · subst h0
      have hel0 := List.length_eq_zero_iff.1 hel
      subst hel0
      refine ⟨_, .slice (some ⟨0, 0, none⟩) 0 1, rfl, by simp [impV], rfl, [], [], .inr ⟨rest.map (·.1), rfl⟩, rfl, by simp, fun rows hr _ h => ?_⟩
      have := List.length_eq_zero_iff.1 hr
      subst this
      exact .inr ⟨_, _, rfl, by simp⟩
    · obtain ⟨r00, hc0, _⟩ := hcell 0 (by omega)
      obtain ⟨_, hl0, hg0⟩ := World.cells?_some hc0
      have hfirst : ∃ c, W.cell? a = some c := by
        have := hg0 0 hk0
        simp [Addr.add] at this
        exact ⟨_, by rw [this]; exact List.getElem?_eq_getElem (by omega)⟩
      obtain ⟨c, hc⟩ := hfirst
      have hs := World.cell?_spot hc
      have hlt := World.block_lt_of_cell? W a hc
      have himp : impV W.heap.size (.slice (some a) len cap) = some (.slice (some a) len 1) := by
        simp [impV, h0, hs, hlt, hl]
      have hrows : ∃ rows0 : List (List Value), rows0.length = len ∧ ∀ (i : Nat) (r0 : List Value), rows0[i]? = some r0 → W.cells? 0 (a.add (i * k)) k = some r0 ∧ DataW.trod enc P W 0 sp held n e r0 = elems[i]? := by
        have key : ∀ m, m ≤ len → ∃ rows0 : List (List Value), rows0.length = m ∧ ∀ (i : Nat) (r0 : List Value), rows0[i]? = some r0 → W.cells? 0 (a.add (i * k)) k = some r0 ∧ DataW.trod enc P W 0 sp held n e r0 = elems[i]? := by
          intro m
          induction m with
          | zero => intro _; exact ⟨[], rfl, by simp⟩
          | succ m ih =>
            intro hm
            obtain ⟨rs, h1, h2⟩ := ih (by omega)
            obtain ⟨r0, h3, h4⟩ := hcell m (by omega)
            refine ⟨rs ++ [r0], by simp [h1], fun i r hi => ?_⟩
            by_cases him : i < m
            · rw [List.getElem?_append_left (by omega)] at hi; exact h2 i r hi
            · rw [List.getElem?_append_right (by omega)] at hi
              have : i - rs.length = 0 := by
                have := (List.getElem?_eq_some_iff.1 hi).1
                simp at this; omega
              rw [this] at hi
              simp at hi
              subst hi
              have : i = m := by omega
              subst this
              exact ⟨h3, h4⟩
        exact key len (Nat.le_refl _)
      obtain ⟨rows0, hr1, hr2⟩ := hrows
      refine ⟨_, _, rfl, himp, rfl, rows0, elems, .inr ⟨rest.map (·.1), rfl⟩, by omega, fun i r0 y h1 h2 => ?_, fun rows h1 h2 h => .inr ⟨a, 1, by rw [h1, hr1], fun i r hi => ?_⟩⟩
      · obtain ⟨g1, g2⟩ := hr2 i r0 h1
        exact ⟨(World.cells?_some g1).2.1, n, by rw [g2, h2]⟩
      · have hlt' := (List.getElem?_eq_some_iff.1 hi).1
        have : ∃ r0, rows0[i]? = some r0 := ⟨rows0[i]'(by omega), List.getElem?_eq_getElem (by omega)⟩
        obtain ⟨r0, hr0⟩ := this
        obtain ⟨g1, _⟩ := hr2 i r0 hr0
        obtain ⟨_, g3, g4⟩ := World.cells?_some g1
        have g5 := h2 i r0 r hr0 hi
        rw [add_ush hs] at g4
        refine ⟨by rw [imps_len _ _ _ g5, g3], ?_⟩
        show rdN W h (ush a (i * k)) k = some r
        have hss : (ush a (i * k)).spot = none := hs
        unfold rdN
        rw [hss]
        exact rdBase_of k _ r0 r g3 hs (fun j hj => by rw [← g4 j hj, add_ush (by simpa using hs)]) g5

/-- A struct whose fields have one cell each. -/
def chkOne (P : Program) (t : TypeId) (ts : List TypeId) : Bool :=
  match P.underlying t with
  | some (.struct fs) => decide (fs.toList.map (·.type) = ts) && decide (fs.toList.map (·.offset) = List.range ts.length) && ts.all (fun u => decide (P.cellsOf u = 1)) && decide (P.cellsOf t = ts.length)
  | _ => false

theorem open_fields {t : TypeId} {ts : List TypeId} (hc : chkOne P t ts = true) {fuel : Nat} {r0 : List Value} {y : DataW H × List MemPlace} (h : DataW.trod enc P W 0 sp held fuel t r0 = some y) :
    ∃ (fs : Array Field) (ys : List (DataW H × List MemPlace)), P.underlying t = some (.struct fs) ∧ fs.toList.map (·.type) = ts ∧ y.1 = .agg (ys.map (·.1)) ∧ r0.length = ts.length ∧ ys.length = ts.length ∧
      ∀ (j : Nat) (u : TypeId), ts[j]? = some u → ∃ v z, r0[j]? = some v ∧ ys[j]? = some z ∧ ∃ n, DataW.trod enc P W 0 sp held n u [v] = some z := by
  unfold chkOne at hc
  split at hc
  · rename_i fs hu
    simp only [Bool.and_eq_true, decide_eq_true_eq, List.all_eq_true] at hc
    obtain ⟨⟨⟨h1, h2⟩, h3⟩, h4⟩ := hc
    obtain ⟨xs, n, -, rfl, g2, g3, g4⟩ := DataW.trod_struct hu h
    have hfs : fs.size = ts.length := by rw [← h1]; simp
    refine ⟨fs, xs, hu, h1, rfl, by rw [g2, h4], by omega, fun j u hj => ?_⟩
    have hjl := (List.getElem?_eq_some_iff.1 hj).1
    have hf : ∃ f, fs[j]? = some f := ⟨fs[j]'(by omega), Array.getElem?_eq_getElem (by omega)⟩
    obtain ⟨f, hf⟩ := hf
    have hft : f.type = u := by
      have := congrArg (·[j]?) h1
      simp [hf, hj] at this
      exact this
    have hfo : f.offset = j := by
      have := congrArg (·[j]?) h2
      simp [hf, hjl] at this
      exact this
    have hv : ∃ v, r0[j]? = some v := ⟨r0[j]'(by omega), List.getElem?_eq_getElem (by omega)⟩
    obtain ⟨v, hv⟩ := hv
    have hz : ∃ z, xs[j]? = some z := ⟨xs[j]'(by omega), List.getElem?_eq_getElem (by omega)⟩
    obtain ⟨z, hz⟩ := hz
    have := g4 j f hf
    rw [hfo, hft, h3 u (List.mem_of_getElem? hj), hz] at this
    have e1 : (r0.drop j).take 1 = [v] := by
      obtain ⟨q1, rfl⟩ := List.getElem?_eq_some_iff.1 hv
      rw [List.drop_eq_getElem_cons q1]; rfl
    rw [e1] at this
    exact ⟨v, z, hv, hz, n, this⟩
  · cases hc

/-! ### How much there is -/
def Light (P : Program) (t : TypeId) (d : DataW H) : Prop := ∀ n ∈ d.weights P t, n ≤ reachBytes

theorem weightsAll_mem {e : TypeId} : ∀ {ds : List (DataW H)} {d : DataW H}, d ∈ ds → ∀ n ∈ d.weights P e, n ∈ DataW.weightsAll P e ds
  | d' :: ds, d, hd, n, hn => by
    simp only [DataW.weightsAll, List.mem_append]
    rcases List.mem_cons.1 hd with rfl | hd
    · exact .inl hn
    · exact .inr (weightsAll_mem hd n hn)

theorem Light.slice {t e : TypeId} (ht : P.underlying t = some (.slice e)) {elems rest : List (DataW H)} (hl : Light P t (.slice elems rest)) : (elems.length + rest.length) * P.bytesOf e ≤ reachBytes ∧ ∀ d ∈ elems, Light P e d := by
  unfold Light at *
  simp only [DataW.weights, ht] at hl
  exact ⟨hl _ (List.mem_cons_self ..), fun d hd n hn => hl n (List.mem_cons_of_mem _ (List.mem_append_left _ (weightsAll_mem hd n hn)))⟩

theorem weightsEach_mem : ∀ {ts : List TypeId} {ds : List (DataW H)} {j : Nat} {u : TypeId} {d : DataW H}, ts[j]? = some u → ds[j]? = some d → ∀ n ∈ d.weights P u, n ∈ DataW.weightsEach P ts ds
  | t :: ts, d' :: ds, 0, u, d, h1, h2, n, hn => by
    simp at h1 h2; subst h1 h2
    simp only [DataW.weightsEach, List.mem_append]
    exact .inl hn
  | t :: ts, d' :: ds, j + 1, u, d, h1, h2, n, hn => by
    simp only [DataW.weightsEach, List.mem_append]
    exact .inr (weightsEach_mem (by simpa using h1) (by simpa using h2) n hn)
  | [], _, _, _, _, h1, _, _, _ => by simp at h1
  | _ :: _, [], _, _, _, _, h2, _, _ => by simp at h2

theorem Light.agg {t : TypeId} {fs : Array Field} (ht : P.underlying t = some (.struct fs)) {parts : List (DataW H)} (hl : Light P t (.agg parts)) {j : Nat} {u : TypeId} {d : DataW H} (hj : (fs.toList.map (·.type))[j]? = some u) (hd : parts[j]? = some d) : Light P u d := by
  unfold Light at *
  simp only [DataW.weights, ht] at hl
  exact fun n hn => hl n (weightsEach_mem hj hd n hn)

theorem light_of {ts : List TypeId} {ds : List (DataW H)} (h : (DataW.weightsEach P ts ds).all (· ≤ reachBytes) = true) {j : Nat} {u : TypeId} {d : DataW H} (h1 : ts[j]? = some u) (h2 : ds[j]? = some d) : Light P u d := by
  intro n hn
  have := List.all_eq_true.1 h n (weightsEach_mem h1 h2 n hn)
  simpa using this

/-- One for each. -/
theorem list_choose {α β : Type} {p : α → β → Prop} : ∀ (l : List α), (∀ (i : Nat) (a : α), l[i]? = some a → ∃ b, p a b) → ∃ m : List β, m.length = l.length ∧ ∀ (i : Nat) (a : α) (b : β), l[i]? = some a → m[i]? = some b → p a b
  | [], _ => ⟨[], rfl, by simp⟩
  | a :: l, h => by
    obtain ⟨b, hb⟩ := h 0 a rfl
    obtain ⟨m, h1, h2⟩ := list_choose l fun i a hi => h (i + 1) a (by simpa using hi)
    refine ⟨b :: m, by simp [h1], fun i a' b' ha hb' => ?_⟩
    cases i with
    | zero => simp at ha hb'; subst ha hb'; exact hb
    | succ i => exact h2 i a' b' (by simpa using ha) (by simpa using hb')
end
end Go.Ideal
