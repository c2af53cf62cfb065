/- The small functions of opaque and of its reference. -/
import Derived.Test.YtlifcjggdandnaaT1
namespace Go.Proofs.Ytlifcjggdandnaa
open Go.Ideal
variable {w0 : World} {hk : Hooks} {h : Heap}

def storesB (t : Tx) : Bool := t.sure && decide (0 < t.ws.length)
def raisedB (t : Tx) : Bool := t.fall && decide (0 < t.seen)

theorem stores_spec (hf : hk 41 = none) {t : Tx} (ht : TxOk w0 t) : Ans Try.prog w0 hk 41 [.agg t.cells.toArray] h (fun r h' => r = .ret (.bool (storesB t)) ∧ Fr [] h h') := by
  refine Ans.run hf cmp_41 (by simp) ?_
  simp only [code_41]
  have lw := (ht.w h).len
  have l1 := ht.lr
  have l2 := ht.lw
  cases hs : t.sure <;> by_cases h0 : 0 < t.ws.length <;> simp [Tx.cells, l1, l2, lw, hs, storesB, h0, Fr.append]

theorem rstores_spec (hf : hk 46 = none) {t : Tx} (ht : TxOk w0 t) : Ans Try.prog w0 hk 46 [.agg t.cells.toArray] h (fun r h' => r = .ret (.bool (storesB t)) ∧ Fr [] h h') := by
  refine Ans.run hf cmp_46 (by simp) ?_
  simp only [code_46]
  have lw := (ht.w h).len
  have l1 := ht.lr
  have l2 := ht.lw
  cases hs : t.sure <;> by_cases h0 : 0 < t.ws.length <;> simp [Tx.cells, l1, l2, lw, hs, storesB, h0, Fr.append]

theorem raised_spec (hf : hk 48 = none) {t : Tx} (ht : TxOk w0 t) : Ans Try.prog w0 hk 48 [.agg t.cells.toArray] h (fun r h' => r = .ret (.bool (raisedB t)) ∧ Fr [] h h') := by
  refine Ans.run hf cmp_48 (by simp) ?_
  simp only [code_48]
  have l1 := ht.lr
  have l2 := ht.lw
  cases hs : t.fall <;> by_cases h0 : 0 < t.seen <;> simp [Tx.cells, l1, l2, hs, raisedB, h0, Fr.append]

theorem nan_spec (hf : hk 62 = none) (x : Int) : Ans Try.prog w0 hk 62 [.int .i64 x] h (fun r h' => r = .ret (.bool false) ∧ h' = h) := by
  refine Ans.run hf cmp_62 (by simp) ?_
  simp only [code_62]
  simp

def cmpI (x y : Int) : Int := if x < y then -1 else if y < x then 1 else 0

theorem compare_spec (hf : hk 44 = none) (hf2 : hk 62 = none) (x y : Int) : Ans Try.prog w0 hk 44 [.int .i64 x, .int .i64 y] h (fun r h' => r = .ret (.int .i64 (cmpI x y)) ∧ h' = h) := by
  refine Ans.run hf cmp_44 (by simp) ?_
  simp only [code_44]
  simp
  refine (nan_spec hf2 x).mono ?_
  rintro r h' ⟨rfl, rfl⟩
  simp
  refine (nan_spec hf2 y).mono ?_
  rintro r h' ⟨rfl, rfl⟩
  by_cases h1 : x < y
  · simp [h1, cmpI]
  · by_cases h2 : y < x <;> simp [h1, h2, cmpI]

/-- What was stored at a stamp. -/
structure En where
  (stamp : Int) (flag : Bool) (pv : Value) (ps : List (Int × Int))
def En.cells (e : En) : List Value := [.int .i64 e.stamp, .bool e.flag, e.pv]
@[simp] theorem En.cells_len (e : En) : e.cells.length = 3 := rfl
def En.key (e : En) : Int := 2 * e.stamp + if e.flag then 0 else 1

theorem cmp_spec (hf : hk 43 = none) (hf1 : hk 44 = none) (hf2 : hk 62 = none) (x y : En) (hx : leaf x.pv = true) (hy : leaf y.pv = true) :
    Ans Try.prog w0 hk 43 [.agg x.cells.toArray, .agg y.cells.toArray] h (fun r h' => (∃ c, r = .ret (.int .i64 c) ∧ (c < 0 ↔ x.key < y.key)) ∧ Fr [] h h') := by
  refine Ans.run hf cmp_43 (by simp) ?_
  simp only [code_43]
  by_cases he : x.stamp = y.stamp
  · cases h1 : x.flag <;> cases h2 : y.flag <;> simp [En.cells, hx, hy, he, h1, h2, Fr.append, En.key] <;> omega
  · simp [En.cells, hx, hy, he]
    refine (compare_spec hf1 hf2 _ _).mono ?_
    rintro r h' ⟨rfl, rfl⟩
    simp [Fr.append]
    unfold cmpI En.key
    cases x.flag <;> cases y.flag <;> simp <;> split <;> (try split) <;> omega

/-- The closures that say how far. -/
structure LetOk (w0 : World) (hk : Hooks) (h : Heap) (lf : Value) (c : Int → Bool) (g : FuncId) (cap : List Value) : Prop where
  ic : ∀ l, icall Try.prog lf l = some (.call g (l ++ cap))
  ans : ∀ (x : Int) (h' : Heap), Fr [] h h' → Ans Try.prog w0 hk g (.int .i64 x :: cap) h' (fun r h2 => r = .ret (.bool (c x)) ∧ h2 = h')

theorem letState_ok (hf : hk 28 = none) {b : Nat} {s : Int} (hb : h[b]? = some (.row [.int .i64 s] 3 0)) : LetOk w0 hk h (.func (.func 28) #[] #[.pointer (some ⟨b, 0, some 0⟩)]) (fun x => decide (x ≤ s)) 28 [.pointer (some ⟨b, 0, some 0⟩)] := by
  refine ⟨fun l => by simp, fun x h' fr => ?_⟩
  have hb' := fr.same b _ (by simp) hb
  refine Ans.run hf cmp_28 (by simp) ?_
  simp only [code_28]
  simp [hb']

theorem letLast_ok (hf : hk 29 = none) : LetOk w0 hk h (.func (.func 29) #[] #[]) (fun x => true) 29 [] := by
  refine ⟨fun l => by simp, fun x h' fr => ?_⟩
  refine Ans.run hf cmp_29 (by simp) ?_
  simp only [code_29]
  simp

theorem letCheck_ok (hf : hk 25 = none) {b : Nat} {t : Tx} (hb : h[b]? = some (.row t.cells 53 0)) : LetOk w0 hk h (.func (.func 25) #[] #[.pointer (some ⟨b, 0, some 0⟩)]) (fun x => decide (x ≤ t.seen)) 25 [.pointer (some ⟨b, 0, some 0⟩)] := by
  refine ⟨fun l => by simp, fun x h' fr => ?_⟩
  have hb' := fr.same b _ (by simp) hb
  refine Ans.run hf cmp_25 (by simp) ?_
  simp only [code_25]
  simp [hb', Tx.cells]

theorem flatten_irow1 (l : List Int) : (l.map irow1).flatten = ints l := by
  induction l with
  | nil => rfl
  | cons x xs ih => simp [irow1, ints] at *; exact ih

theorem clone_spec (hf : hk 45 = none) {fv : Value} {first : List Int} (hs : Sl w0 h fv 1 (first.map irow1)) (hn : first ≠ []) (hl : first.length ≤ 35184372088831 / 8) :
    Ans Try.prog w0 hk 45 [fv] h (fun r h' => r = .ret (.slice (some ⟨h.length + 1, 0, some 0⟩) first.length 0) ∧ h' = h ++ [.row [] 3 0, .row (ints first) 3 0]) := by
  refine Ans.run hf cmp_45 (by simp) ?_
  simp only [code_45]
  obtain ⟨a, c, rfl⟩ := hs.is (by simpa using hn)
  have h0 : first.length ≠ 0 := by simpa using hn
  have hs' : Sl w0 (h ++ [.row [] 3 0]) (.slice (some a) (first.map irow1).length c) 1 (first.map irow1) := hs.fr (Fr.append [] _ _) (.inr (by simp))
  have hall := hs'.all.resolve_left (by simpa using hn)
  rw [flatten_irow1] at hall
  simp [bAddr] at hall
  simp [repl]
  refine app_22 _ _ _ _ ?_
  simp [appV, ilen, h0, firstN, hall]
  exact ⟨List.all_eq_true.1 (ints_leaf first), by omega, by omega⟩
end Go.Proofs.Ytlifcjggdandnaa
