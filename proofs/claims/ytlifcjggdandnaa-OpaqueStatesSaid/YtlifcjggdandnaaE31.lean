/- More operations with their types looked up. -/
import Derived.Test.YtlifcjggdandnaaE30
namespace Go.Ideal
section
variable {P : Program} {w0 : World} {h : Heap}

def mapGet (z : Value) (h : Heap) (ok : Bool) : Value → Value → Option Value
  | .map (some r), .int .i64 k => match h[r]? with
    | some (.map es) => some (if ok then .tuple #[(mfind k es).getD z, .bool (mfind k es).isSome] else (mfind k es).getD z)
    | _ => none
  | _, _ => none
theorem ilookup_of {T kt et : TypeId} {i : TypeInfo} {z : Value} (hu : P.underlying T = some (.map kt et)) (hk : P.underlying kt = some (.int .i64)) (hi : P.info? et = some i) (hz : i.zero = some z) (hp : plainV z = true) (x k : Value) (ok : Bool) :
    ilookup P h T x k ok = mapGet z h ok x k := by
  unfold ilookup mapGet
  rw [hu]
  cases x with
  | map r =>
    cases r with
    | none => rfl
    | some r =>
      cases k with
      | int kd n =>
        cases kd with
        | i64 =>
          simp only [hk]
          cases hr : h[r]? with
          | none => rfl
          | some o =>
            cases o with
            | row => rfl
            | map es => simp only [hi, hz, hp, Option.bind_some, if_true]; cases mfind n es <;> simp
        | _ => rfl
      | _ => rfl
  | _ => rfl

def mapPut (h : Heap) : Value → Value → Value → Option Heap
  | .map (some r), .int .i64 n, v => match h[r]? with
    | some (.map es) => some (h.set r (.map (mput n v es)))
    | _ => none
  | _, _, _ => none
theorem imapUpdate_of {T kt et : TypeId} (hu : P.underlying T = some (.map kt et)) (hk : P.underlying kt = some (.int .i64)) (m k v : Value) : imapUpdate P h T m k v = mapPut h m k v := by
  unfold imapUpdate mapPut
  rw [hu]
  cases m with
  | map r =>
    cases r with
    | none => rfl
    | some r =>
      cases k with
      | int kd n =>
        cases kd with
        | i64 =>
          simp only [hk]
          cases h[r]? with
          | none => rfl
          | some o => cases o <;> rfl
        | _ => rfl
      | _ => rfl
  | _ => rfl

def firstN (w0 : World) (h : Heap) (k : Nat) : Value → Nat → Option (List Value)
  | .slice (some a) _ _, n => if n = 0 then some [] else rdN w0 h a (n * k)
  | .slice none _ _, n => if n = 0 then some [] else none
  | _, _ => none
theorem ifirst_of {e : TypeId} {k : Nat} (hs : tsize P e = some k) (x : Value) (n : Nat) : ifirst P w0 h e x n = firstN w0 h k x n := by
  unfold ifirst firstN
  rw [hs]
  cases x with
  | slice a _ _ => cases a <;> rfl
  | _ => rfl

/-- 'append', with the element's type, its cells, and its bytes. -/
def appV (w0 : World) (h : Heap) (e : TypeId) (k bytes : Nat) (s x : Value) : Option IRes := (ilen x).bind fun m =>
    if m = 0 then
      match s with
      | .slice none 0 0 => some (.val s h)
      | .slice (some a) _ 0 => match a.spot, h[a.block]? with
        | some g, some (.row _ e' g') => if g = g' ∧ a.off = 0 ∧ e' = e then some (.val s h) else none
        | _, _ => none
      | .slice (some _) _ _ => some (.val s h)
      | _ => none
    else (firstN w0 h k x m).bind fun new =>
    if ¬ new.all leaf then none else
    match s with
    | .slice none 0 0 => if m * bytes > 35184372088832 ∨ m > 35184372088832 then none else
      some (.val (.slice (some ⟨h.length, 0, some 0⟩) m 0) (h ++ [.row new e 0]))
    | .slice (some a) n c =>
      if (n + m) * bytes > 35184372088832 ∨ n + m > 35184372088832 then none else
      match c with
      | 0 => match a.spot, h[a.block]? with
        | some g, some (.row cs e' g') => if g = g' ∧ a.off = 0 ∧ e = e' then
            (if n * k = cs.length then
                some (.val (.slice (some ⟨a.block, 0, some (g + 1)⟩) (n + m) 0) (h.set a.block (.row (cs ++ new) e (g + 1))))
             else (wrN h (ush a (n * k)) new).map fun h' => .val (.slice (some a) (n + m) 0) h') else none
        | _, _ => none
      | 1 => none
      | j + 2 => if n + m ≤ j then (wrN h (ush a (n * k)) new).map fun h' => .val (.slice (some a) (n + m) (j + 2)) h'
        else (firstN w0 h k s n).bind fun old => some (.val (.slice (some ⟨h.length, 0, some 0⟩) (n + m) 0) (h ++ [.row (old ++ new) e 0]))
    | _ => none

theorem Sat_app {T e : TypeId} {i : TypeInfo} {z : List Value} {k bytes : Nat} (hu : P.underlying T = some (.slice e)) (hz : izero P e = some z) (hl : z.length = k) (hk0 : k ≠ 0) (hs : tsize P e = some k) (hi : P.info? e = some i) (hb : i.bytes = bytes) (s x : Value) {G : IRes → Prop}
    (hg : Sat (appV w0 h e k bytes s x) G) : Sat (iappend P w0 h T T s x) G := by
  have key : ∀ r, appV w0 h e k bytes s x = some r → iappend P w0 h T T s x = some r := by
    intro r hr
    unfold appV at hr
    unfold iappend
    simp only [ne_eq, not_true, if_false, hu, hz, Option.bind_some, hi]
    obtain ⟨m, hm, hr'⟩ := Option.bind_eq_some_iff.1 hr
    clear hr
    have hr := hr'
    clear hr'
    rw [hm]
    simp only [Option.bind_some]
    by_cases hm0 : m = 0
    · rw [if_pos hm0] at hr ⊢
      cases s with
      | slice a n c =>
        cases a with
        | none => cases n <;> cases c <;> first | exact hr | (simp at hr)
        | some a =>
          cases c with
          | zero =>
            simp only at hr ⊢
            split at hr
            · rename_i g cs e' g' h1 h2
              split at hr
              · rename_i hh
                obtain ⟨rfl, h3, rfl⟩ := hh
                cases hr
                simp [icap, h1, h2, hs, hk0, h3]
              · cases hr
            · cases hr
          | succ c => exact hr
      | _ => exact hr
    · rw [if_neg hm0] at hr ⊢
      simp only [ifirst_of hs, hl, hk0, false_or, hb] at *
      exact hr
  obtain ⟨r, h1, h2⟩ := hg
  exact ⟨r, key r h1, h2⟩

theorem ieq_slice_nil {T e : TypeId} (hu : P.underlying T = some (.slice e)) (a : Option Addr) (n c : Nat) : ieq P 100 T (.slice a n c) (.slice none 0 0) = some a.isNone := by
  show ieq P (99 + 1) T _ _ = _
  cases a <;> simp [ieq, hu]

def mkS (z : List Value) (bytes : Nat) (e : TypeId) (h : Heap) : Value → Value → Option IRes
  | .int .i64 n, .int .i64 m => if n < 0 ∨ m < n ∨ bytes * m > 140737488355328 ∨ m > 140737488355328 then none
    else some (.val (.slice (some ⟨h.length, 0, some 0⟩) n.toNat (m.toNat + 2)) (h ++ [.row (repl m.toNat z) e 0]))
  | _, _ => none
theorem imakeSlice_of {T e : TypeId} {i : TypeInfo} {z : List Value} {bytes : Nat} (hu : P.underlying T = some (.slice e)) (hz : izero P e = some z) (hl : z.length ≠ 0) (hi : P.info? e = some i) (hb : i.bytes = bytes) (l c : Value) : imakeSlice P h T l c = mkS z bytes e h l c := by
  unfold imakeSlice mkS
  rw [hu]
  subst hb
  cases l with
  | int k n =>
    cases k with
    | i64 =>
      cases c with
      | int k m =>
        cases k with
        | i64 => simp only [hz, hi, hl, Option.bind_some, false_or]
        | _ => rfl
      | _ => rfl
    | _ => cases c <;> rfl
  | _ => rfl

@[simp] theorem repl_zero (z : List Value) : repl 0 z = [] := rfl
@[simp] theorem repl_succ (n : Nat) (z : List Value) : repl (n + 1) z = z ++ repl n z := by simp [repl, List.replicate_succ]
theorem repl_one (n : Nat) (v : Value) : repl n [v] = List.replicate n v := by
  unfold repl
  induction n with
  | zero => rfl
  | succ n ih => rw [List.replicate_succ, List.flatten_cons, ih]; rfl

end
attribute [simp] mapGet mapPut
end Go.Ideal
