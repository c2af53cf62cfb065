/- The ideal machine: a deterministic reading of the model's code over a heap of growable rows. Definitions only. -/
import Derived.WalkKit
import Derived.Laws.StructEq
import Derived.Maps.AppendAt
import Derived.Laws.MakeOwn
import Derived.Laws.Build
import Derived.Orders
namespace Go.Ideal

/-- An object of the ideal heap: a row of cells (with the number of times it has grown), or a map from whole numbers. -/
inductive IObj where
  | row (cells : List Value) (elem : TypeId) (gen : Nat)
  | map (es : List (Int × Value))
  deriving Inhabited

abbrev Heap := List IObj

def IObj.gen : IObj → Nat
  | .row _ _ g => g
  | .map _ => 0

def ush (a : Addr) (n : Nat) : Addr := { a with off := a.off + n }

/-- What a value of the first world is here: B blocks lie there. -/
def impV (B : Nat) : Value → Option Value
  | .int k n => some (.int k n)
  | .bool b => some (.bool b)
  | .string s => some (.string s)
  | .pointer none => some (.pointer none)
  | .pointer (some a) => if a.spot.isNone && decide (a.block < B) then some (.pointer (some a)) else none
  | .slice none 0 0 => some (.slice none 0 0)
  | .slice (some a) n c => if n = 0 then some (.slice (some ⟨0, 0, none⟩) 0 1) else if a.spot.isNone && decide (a.block < B) && decide (n ≤ c) then some (.slice (some a) n 1) else none
  | .nilFunc => some .nilFunc
  | _ => none

def leaf : Value → Bool
  | .agg _ | .tuple _ => false
  | _ => true

def rd (w0 : World) (h : Heap) (a : Addr) : Option Value :=
  match a.spot with
  | none => (w0.cell? a).bind (impV w0.heap.size)
  | some g => match h[a.block]? with
    | some (.row cs _ g') => if g = g' then cs[a.off]? else none
    | _ => none

def rdBase (w0 : World) (a : Addr) : Nat → Option (List Value)
  | 0 => some []
  | n + 1 => ((w0.cell? a).bind (impV w0.heap.size)).bind fun v => (rdBase w0 (ush a 1) n).map (v :: ·)

def rdN (w0 : World) (h : Heap) (a : Addr) (n : Nat) : Option (List Value) :=
  match a.spot with
  | none => rdBase w0 a n
  | some g => match h[a.block]? with
    | some (.row cs _ g') => if g = g' then (if a.off + n ≤ cs.length then some ((cs.drop a.off).take n) else none) else none
    | _ => none

def splice (cs : List Value) (off : Nat) (vs : List Value) : List Value := cs.take off ++ vs ++ cs.drop (off + vs.length)

def wr1 (h : Heap) (a : Addr) (v : Value) : Option Heap :=
  match a.spot with
  | none => none
  | some g => match h[a.block]? with
    | some (.row cs e g') => if g = g' then (if a.off < cs.length then (if leaf v then some (h.set a.block (.row (cs.set a.off v) e g')) else none) else none) else none
    | _ => none

def wrN (h : Heap) (a : Addr) (vs : List Value) : Option Heap :=
  match a.spot with
  | none => none
  | some g => match h[a.block]? with
    | some (.row cs e g') => if g = g' then (if a.off + vs.length ≤ cs.length then (if vs.all leaf then some (h.set a.block (.row (splice cs a.off vs) e g')) else none) else none) else none
    | _ => none

/-- Values that name no place. -/
def plainV : Value → Bool
  | .bool _ | .int _ _ | .string _ | .pointer none | .slice none 0 0 | .map none | .nilFunc | .nilIface => true
  | _ => false

def tsize (P : Program) (t : TypeId) : Option Nat := (P.info? t).map (·.size)

def aggT (P : Program) (t : TypeId) : Option Bool :=
  match P.underlying t with
  | some (.struct _) | some (.array _ _) => some true
  | some _ => some false
  | none => none

def iload (P : Program) (w0 : World) (h : Heap) (t : TypeId) (a : Addr) : Option Value :=
  match aggT P t with
  | some true => (tsize P t).bind fun n => (rdN w0 h a n).map fun l => .agg l.toArray
  | some false => rd w0 h a
  | none => none

def istore (P : Program) (h : Heap) (t : TypeId) (a : Addr) (v : Value) : Option Heap :=
  match v with
  | .agg cs => (tsize P t).bind fun n => if cs.size = n then wrN h a cs.toList else none
  | v => (tsize P t).bind fun n => if n = 1 then wr1 h a v else none

def ialloc (h : Heap) (e : TypeId) (cells : List Value) : Value × Heap := (.pointer (some ⟨h.length, 0, some 0⟩), h ++ [.row cells e 0])

def vcells (v : Value) : List Value := v.cells.toList

inductive IRes where
  | val (v : Value) (h : Heap)
  | skip (h : Heap)
  | call (f : FuncId) (args : List Value)
  | panic (v : Value)

/-- '==' of values that name no place. -/
def ieq (P : Program) : Nat → TypeId → Value → Value → Option Bool
  | 0, _, _, _ => none
  | d + 1, t, x, y =>
    match P.underlying t, x, y with
    | some .bool, .bool a, .bool b => some (a == b)
    | some (.int _), .int k a, .int k' b => if k = k' then some (a == b) else none
    | some .string, .string a, .string b => some (a.toList == b.toList)
    | some (.pointer _), .pointer none, .pointer b => some b.isNone
    | some (.pointer _), .pointer (some _), .pointer none => some false
    | some (.slice _), .slice none _ _, .slice b _ _ => some b.isNone
    | some (.slice _), .slice (some _) _ _, .slice none _ _ => some false
    | some (.func _ _ _), .nilFunc, .nilFunc => some true
    | some (.func _ _ _), .nilFunc, .func _ _ _ => some false
    | some (.func _ _ _), .func _ _ _, .nilFunc => some false
    | some (.interface ms), .nilIface, .nilIface => if ms.isEmpty then some true else none
    | some (.interface _), .nilIface, .iface _ _ => some false
    | some (.interface _), .iface _ _, .nilIface => some false
    | some (.struct fs), .agg xs, .agg ys =>
      if P.stoodInHeld t then none else fs.toList.foldr (fun f acc =>
        if f.name ≠ "_" then
          match aggT P f.type, tsize P f.type with
          | some true, some n => (ieq P d f.type (.agg (xs.extract f.offset (f.offset + n))) (.agg (ys.extract f.offset (f.offset + n)))).bind fun b => if b then acc else some false
          | some false, _ => (xs[f.offset]?).bind fun a => (ys[f.offset]?).bind fun b => (ieq P d f.type a b).bind fun r => if r then acc else some false
          | _, _ => none
        else acc) (some true)
    | _, _, _ => none

def iint (op : BinOp) (k : IntKind) (a b : Int) : Option Value :=
  match op with
  | .add => some (.int k (k.wrap (a + b)))
  | .sub => some (.int k (k.wrap (a - b)))
  | .mul => some (.int k (k.wrap (a * b)))
  | .quo => if b = 0 then none else some (.int k (k.wrap (a.tdiv b)))
  | .rem => if b = 0 then none else some (.int k (a.tmod b))
  | .and => some (.int k (bits .and k a b))
  | .or => some (.int k (bits .or k a b))
  | .xor => some (.int k (bits .xor k a b))
  | .andNot => some (.int k (bits .andNot k a b))
  | .eql => some (.bool (a == b))
  | .neq => some (.bool (a != b))
  | .lss => some (.bool (decide (a < b)))
  | .leq => some (.bool (decide (a ≤ b)))
  | .gtr => some (.bool (decide (a > b)))
  | .geq => some (.bool (decide (a ≥ b)))
  | _ => none

def ishift (op : BinOp) (k : IntKind) (a b : Int) : Option Value :=
  if b < 0 then none else
  match op with
  | .shl => some (.int k (k.wrap (a * 2 ^ (min b.toNat k.bits))))
  | .shr => some (.int k (a.fdiv (2 ^ (min b.toNat k.bits))))
  | _ => none

def istr (op : BinOp) (x y : ByteArray) : Option Value :=
  match op with
  | .add => if ((x.size + y.size : Nat) : Int) > IntKind.i64.max then none else some (.string (x ++ y))
  | .eql => some (.bool (x.toList == y.toList))
  | .neq => some (.bool (!(x.toList == y.toList)))
  | _ => none

def ibin (P : Program) (op : BinOp) (t : TypeId) (x y : Value) : Option Value :=
  match x, y with
  | .int k a, .int k' b =>
    match op with
    | .shl | .shr => ishift op k a b
    | _ => if k = k' then iint op k a b else none
  | .string a, .string b => istr op a b
  | .agg xs, .agg ys =>
    if P.eqGuardType P.depth t then none else
    match op with
    | .eql => (ieq P 100 t (.agg xs) (.agg ys)).map .bool
    | .neq => (ieq P 100 t (.agg xs) (.agg ys)).map fun b => .bool (!b)
    | _ => none
  | x, y =>
    match op with
    | .eql => (ieq P 100 t x y).map .bool
    | .neq => (ieq P 100 t x y).map fun b => .bool (!b)
    | _ => none

def iun (op : UnOp) (x : Value) : Option Value :=
  match op, x with
  | .neg, .int k n => some (.int k (k.wrap (0 - n)))
  | .not, .bool b => some (.bool !b)
  | _, _ => none

/-- The cells that 'build' lays. -/
def ifill (place : Nat → Option (Nat × Nat)) (cells : List Value) : List (Nat × Value) → Option (List Value)
  | [] => some cells
  | (i, v) :: rest =>
    match place i with
    | none => none
    | some (off, size) =>
      if (vcells v).length ≠ size ∨ off + (vcells v).length > cells.length then none
      else ifill place (splice cells off (vcells v)) rest

def iplaces (P : Program) : List Field → Option (List (Nat × Nat))
  | [] => some []
  | f :: fs => (tsize P f.type).bind fun n => (iplaces P fs).map ((f.offset, n) :: ·)

def izero (P : Program) (t : TypeId) : Option (List Value) :=
  (P.info? t).bind fun i => i.zero.bind fun z => if z.cells.toList.all plainV ∧ z.cells.size = i.size then some z.cells.toList else none

def ibuild (P : Program) (t : TypeId) (parts : List (Nat × Value)) : Option Value :=
  (izero P t).bind fun z =>
  match P.underlying t with
  | some (.struct fs) => (iplaces P fs.toList).bind fun pl => (ifill (fun i => pl[i]?) z parts).bind fun cs => if cs.all leaf then some (.agg cs.toArray) else none
  | some (.array _ e) => (tsize P e).bind fun n => (ifill (fun i => some (i * n, n)) z parts).bind fun cs => if cs.all leaf then some (.agg cs.toArray) else none
  | _ => none

def repl (n : Nat) (z : List Value) : List Value := (List.replicate n z).flatten

def irow (h : Heap) (e : TypeId) (cells : List Value) (n : Nat) : IRes := .val (.slice (some ⟨h.length, 0, some 0⟩) n (n + 2)) (h ++ [.row cells e 0])

def ibuildSlice (P : Program) (h : Heap) (t : TypeId) (len : Nat) (parts : List (Nat × Value)) : Option IRes :=
  match P.underlying t with
  | some (.slice e) => (izero P e).bind fun z =>
    if z.length = 0 ∨ len * z.length > 16777216 then none else
    (ifill (fun i => some (i * z.length, z.length)) (repl len z) parts).bind fun cs => if cs.all leaf then some (irow h e cs len) else none
  | _ => none

def imakeSlice (P : Program) (h : Heap) (t : TypeId) (l c : Value) : Option IRes :=
  match P.underlying t, l, c with
  | some (.slice e), .int .i64 n, .int .i64 m => (izero P e).bind fun z => (P.info? e).bind fun i =>
    if z.length = 0 ∨ n < 0 ∨ m < n ∨ i.bytes * m > 140737488355328 ∨ m > 140737488355328 then none
    else some (.val (.slice (some ⟨h.length, 0, some 0⟩) n.toNat (m.toNat + 2)) (h ++ [.row (repl m.toNat z) e 0]))
  | _, _, _ => none

/-- How many elements a slice has room for, as far as that is told. -/
def icap (P : Program) (h : Heap) (a : Addr) (len c : Nat) : Option Nat :=
  match c with
  | 0 => match a.spot, h[a.block]? with
    | some g, some (.row cs e g') => (tsize P e).bind fun n => if g = g' ∧ a.off = 0 ∧ n ≠ 0 then some (cs.length / n) else none
    | _, _ => none
  | 1 => some len
  | k + 2 => some k

def ibound (x : Option Value) (d : Nat) : Option Nat :=
  match x with
  | none => some d
  | some (.int _ i) => if 0 ≤ i then some i.toNat else none
  | _ => none

def islice (P : Program) (h : Heap) (t : TypeId) (x : Value) (lo hi mx : Option Value) : Option Value :=
  match P.underlying t, x, mx with
  | some .string, .string s, none => (ibound lo 0).bind fun l => (ibound hi s.size).bind fun u => if l ≤ u ∧ u ≤ s.size then some (.string (s.extract l u)) else none
  | some (.slice e), .slice (some a) len c, none => (tsize P e).bind fun n => (icap P h a len c).bind fun cp => (ibound lo 0).bind fun l => (ibound hi len).bind fun u =>
    if l ≤ u ∧ u ≤ cp ∧ len ≤ cp then
      (if l = 0 then some (.slice (some a) u c)
       else some (.slice (some (ush a (l * n))) (u - l) (match c with | k + 2 => k - l + 2 | _ => 1)))
    else none
  | some (.slice e), .slice none 0 0, none => (tsize P e).bind fun _ => (ibound lo 0).bind fun l => (ibound hi 0).bind fun u => if l = 0 ∧ u = 0 then some (.slice none 0 0) else none
  | some (.slice e), .slice (some a) len c, some m => (tsize P e).bind fun n => (icap P h a len c).bind fun cp => (ibound lo 0).bind fun l => (ibound hi len).bind fun u => (ibound (some m) 0).bind fun q =>
    if l ≤ u ∧ u ≤ q ∧ q ≤ cp ∧ len ≤ cp ∧ hi.isSome then some (.slice (some (ush a (l * n))) (u - l) (q - l + 2)) else none
  | some (.array n e), .pointer (some a), none => (tsize P e).bind fun k => (ibound lo 0).bind fun l => (ibound hi n).bind fun u =>
    if l ≤ u ∧ u ≤ n then some (.slice (some (ush a (l * k))) (u - l) (n - l + 2)) else none
  | some (.array n e), .pointer (some a), some m => (tsize P e).bind fun k => (ibound lo 0).bind fun l => (ibound hi n).bind fun u => (ibound (some m) 0).bind fun q =>
    if l ≤ u ∧ u ≤ q ∧ q ≤ n ∧ hi.isSome then some (.slice (some (ush a (l * k))) (u - l) (q - l + 2)) else none
  | _, _, _ => none

def iindexAddr (P : Program) (t : TypeId) (x i : Value) : Option Value :=
  match P.underlying t, x, i with
  | some (.slice e), .slice (some a) len _, .int _ j => (tsize P e).bind fun n => if 0 ≤ j ∧ j < len then some (.pointer (some (ush a (j.toNat * n)))) else none
  | some (.array len e), .pointer (some a), .int _ j => (tsize P e).bind fun n => if 0 ≤ j ∧ j < len then some (.pointer (some (ush a (j.toNat * n)))) else none
  | _, _, _ => none

def ifieldAddr (P : Program) (t : TypeId) (x : Value) (k : Nat) : Option Value :=
  match P.underlying t, x with
  | some (.struct fs), .pointer (some a) => (fs[k]?).bind fun f => (tsize P f.type).bind fun n => if n = 0 then none else some (.pointer (some (ush a f.offset)))
  | _, _ => none

def ipart (P : Program) (t : TypeId) (cs : Array Value) (off : Nat) : Option Value :=
  match aggT P t with
  | some true => (tsize P t).bind fun n => some (.agg (cs.extract off (off + n)))
  | some false => cs[off]?
  | none => none

def ifield (P : Program) (t : TypeId) (x : Value) (k : Nat) : Option Value :=
  match P.underlying t, x with
  | some (.struct fs), .agg cs => (fs[k]?).bind fun f => ipart P f.type cs f.offset
  | _, _ => none

def iindex (P : Program) (t : TypeId) (x i : Value) : Option Value :=
  match P.underlying t, x, i with
  | some (.array len e), .agg cs, .int _ j => (tsize P e).bind fun n => if 0 ≤ j ∧ j < len then ipart P e cs (j.toNat * n) else none
  | some .string, .string s, .int _ j => if 0 ≤ j then (s.data.toList[j.toNat]?).map fun b => .int .u8 b.toNat else none
  | _, _, _ => none

def mfind (k : Int) : List (Int × Value) → Option Value
  | [] => none
  | e :: es => if k = e.1 then some e.2 else mfind k es

def mput (k : Int) (v : Value) : List (Int × Value) → List (Int × Value)
  | [] => [(k, v)]
  | e :: es => if k = e.1 then (k, v) :: es else e :: mput k v es

def ilookup (P : Program) (h : Heap) (t : TypeId) (x i : Value) (ok : Bool) : Option Value :=
  match P.underlying t, x, i with
  | some (.map kt et), .map (some r), .int .i64 k =>
    match P.underlying kt, h[r]? with
    | some (.int .i64), some (.map es) => (P.info? et).bind fun inf => inf.zero.bind fun z => if plainV z then
        (match mfind k es with
        | some v => some (if ok then .tuple #[v, .bool true] else v)
        | none => some (if ok then .tuple #[z, .bool false] else z)) else none
    | _, _ => none
  | _, _, _ => none

def imapUpdate (P : Program) (h : Heap) (t : TypeId) (m k v : Value) : Option Heap :=
  match P.underlying t, m, k with
  | some (.map kt _), .map (some r), .int .i64 n =>
    match P.underlying kt, h[r]? with
    | some (.int .i64), some (.map es) => some (h.set r (.map (mput n v es)))
    | _, _ => none
  | _, _, _ => none

def ifirst (P : Program) (w0 : World) (h : Heap) (e : TypeId) (x : Value) (n : Nat) : Option (List Value) :=
  (tsize P e).bind fun k =>
  match x with
  | .slice (some a) _ _ => if n = 0 then some [] else rdN w0 h a (n * k)
  | .slice none _ _ => if n = 0 then some [] else none
  | _ => none

def ilen : Value → Option Nat
  | .slice _ n _ => some n
  | _ => none

def iappend (P : Program) (w0 : World) (h : Heap) (t tx : TypeId) (s x : Value) : Option IRes :=
  if tx ≠ t then none else
  match P.underlying t with
  | some (.slice e) => (izero P e).bind fun z => (P.info? e).bind fun i => (ilen x).bind fun m =>
    if m = 0 then
      match s with
      | .slice none 0 0 => some (.val s h)
      | .slice (some a) n 0 => (icap P h a n 0).map fun _ => .val s h
      | .slice (some _) _ _ => some (.val s h)
      | _ => none
    else (ifirst P w0 h e x m).bind fun new =>
    if z.length = 0 ∨ ¬ new.all leaf then none else
    match s with
    | .slice none 0 0 => if m * i.bytes > 35184372088832 ∨ m > 35184372088832 then none else
      some (.val (.slice (some ⟨h.length, 0, some 0⟩) m 0) (h ++ [.row new e 0]))
    | .slice (some a) n c =>
      if (n + m) * i.bytes > 35184372088832 ∨ n + m > 35184372088832 then none else
      match c with
      | 0 => match a.spot, h[a.block]? with
        | some g, some (.row cs e' g') => if g = g' ∧ a.off = 0 ∧ e = e' then
            (if n * z.length = cs.length then
                some (.val (.slice (some ⟨a.block, 0, some (g + 1)⟩) (n + m) 0) (h.set a.block (.row (cs ++ new) e (g + 1))))
             else (wrN h (ush a (n * z.length)) new).map fun h' => .val (.slice (some a) (n + m) 0) h') else none
        | _, _ => none
      | 1 => none
      | k + 2 => if n + m ≤ k then (wrN h (ush a (n * z.length)) new).map fun h' => .val (.slice (some a) (n + m) (k + 2)) h'
        else (ifirst P w0 h e s n).bind fun old => some (.val (.slice (some ⟨h.length, 0, some 0⟩) (n + m) 0) (h ++ [.row (old ++ new) e 0]))
    | _ => none
  | _ => none

def icopy (P : Program) (w0 : World) (h : Heap) (t : TypeId) (d s : Value) : Option IRes :=
  match P.underlying t, d with
  | some (.slice e), .slice da dn _ => (ilen s).bind fun sn => (ifirst P w0 h e s (Nat.min sn dn)).bind fun cs =>
    if cs.all leaf then
    match da with
    | none => some (.val (.int .i64 (Nat.min sn dn : Nat)) h)
    | some a => if Nat.min sn dn = 0 then some (.val (.int .i64 (Nat.min sn dn : Nat)) h) else (wrN h a cs).map fun h' => .val (.int .i64 (Nat.min sn dn : Nat)) h'
    else none
  | _, _ => none

def iclear (P : Program) (h : Heap) (t : TypeId) (x : Value) : Option IRes :=
  match P.underlying t, x with
  | some (.slice e), .slice (some a) n _ => (izero P e).bind fun z => if n = 0 then some (.val (.tuple #[]) h) else (wrN h a (repl n z)).map fun h' => .val (.tuple #[]) h'
  | some (.slice _), .slice none _ _ => some (.val (.tuple #[]) h)
  | _, _ => none

def ilenB (P : Program) (t : TypeId) (x : Value) : Option Value :=
  match P.underlying t, x with
  | some .string, .string s => some (.int .i64 s.size)
  | some (.array n _), _ => some (.int .i64 n)
  | some (.slice _), .slice _ n _ => some (.int .i64 n)
  | _, _ => none

def iminmaxFrom (mx : Bool) (k : IntKind) : Int → List Value → Option Value
  | x, [] => some (.int k x)
  | x, .int k' y :: r => if k = k' then iminmaxFrom mx k (if mx then (if y > x then y else x) else (if y < x then y else x)) r else none
  | _, _ => none

def iminmax (mx : Bool) : List Value → Option Value
  | .int k x :: r => iminmaxFrom mx k x r
  | _ => none

def ibuiltin (P : Program) (w0 : World) (h : Heap) (b : Builtin) (ts : List TypeId) (args : List Value) : Option IRes :=
  match b, ts, args with
  | .append, [t, tx], [s, x] => iappend P w0 h t tx s x
  | .len, [t], [x] => (ilenB P t x).map (.val · h)
  | .copy, t :: _, [d, s] => icopy P w0 h t d s
  | .clear, [t], [x] => iclear P h t x
  | .max, _, xs => (iminmax true xs).map (.val · h)
  | .min, _, xs => (iminmax false xs).map (.val · h)
  | _, _, _ => none

def icallable (P : Program) (f : FuncId) : Bool :=
  match P.funcs[f]? with
  | some fn => fn.body.isSome && !(fn.name == "runtime.NumGoroutine")
  | none => false

def icall (P : Program) (f : Value) (args : List Value) : Option IRes :=
  match f with
  | .func (.func g) first captured => if icallable P g then some (.call g (first.toList ++ args ++ captured.toList)) else none
  | _ => none

def iconvert (P : Program) (src dst : TypeId) (x : Value) : Option Value :=
  match P.underlying src, P.underlying dst, x with
  | some _, some (.int k), .int _ n => some (.int k (k.wrap n))
  | _, _, _ => none

def itypeAssert (P : Program) (x : Value) (t : TypeId) (ok : Bool) : Option Value :=
  match P.underlying t, x with
  | some (.interface _), _ => none
  | some _, .iface u v => if u = t then some (if ok then .tuple #[v, .bool true] else v) else none
  | _, _ => none

def iop (P : Program) (w0 : World) (h : Heap) (ρ : Operand → Value) (o : Oper) : Option IRes :=
  match o.op with
  | .move x | .assign x => some (.val (ρ x) h)
  | .pick c a b => match ρ c with
    | .bool t => some (.val (bif t then ρ a else ρ b) h)
    | _ => none
  | .alloc e => (izero P e).map fun z => .val (ialloc h e z).1 (ialloc h e z).2
  | .box e x => if (vcells (ρ x)).all leaf then some (.val (ialloc h e (vcells (ρ x))).1 (ialloc h e (vcells (ρ x))).2) else none
  | .build t parts => (ibuild P t (parts.toList.map fun (i, x) => (i, ρ x))).map (.val · h)
  | .buildSlice t len parts => ibuildSlice P h t len (parts.toList.map fun (i, x) => (i, ρ x))
  | .load t x => match ρ x with
    | .pointer (some a) => (iload P w0 h t a).map (.val · h)
    | _ => none
  | .store t x y => match ρ x with
    | .pointer (some a) => (istore P h t a (ρ y)).map .skip
    | _ => none
  | .nilCheck x => match ρ x with
    | .pointer (some a) => some (.val (.pointer (some a)) h)
    | .func (.func f) first cap => some (.val (.func (.func f) first cap) h)
    | _ => none
  | .binOp op t x y _ => (ibin P op t (ρ x) (ρ y)).map (.val · h)
  | .unOp op _ x => (iun op (ρ x)).map (.val · h)
  | .convert src dst x => (iconvert P src dst (ρ x)).map (.val · h)
  | .makeInterface t x => match P.underlying t with
    | some (.interface _) => none
    | some _ => some (.val (.iface t (ρ x)) h)
    | none => none
  | .makeFunc (.func f) first captured => some (.val (.func (.func f) (first.map ρ) (captured.map ρ)) h)
  | .makeMap t r => match P.underlying t, r.map ρ with
    | some (.map _ _), none => some (.val (.map (some h.length)) (h ++ [.map []]))
    | some (.map _ _), some (.int _ _) => some (.val (.map (some h.length)) (h ++ [.map []]))
    | _, _ => none
  | .makeSlice t l c => imakeSlice P h t (ρ l) (ρ c)
  | .slice t x lo hi mx => (islice P h t (ρ x) (lo.map ρ) (hi.map ρ) (mx.map ρ)).map (.val · h)
  | .fieldAddr t x k => (ifieldAddr P t (ρ x) k).map (.val · h)
  | .field t x k => (ifield P t (ρ x) k).map (.val · h)
  | .indexAddr t x i => (iindexAddr P t (ρ x) (ρ i)).map (.val · h)
  | .index t x i => (iindex P t (ρ x) (ρ i)).map (.val · h)
  | .lookup t x i ok => (ilookup P h t (ρ x) (ρ i) ok).map (.val · h)
  | .mapUpdate t m k x => (imapUpdate P h t (ρ m) (ρ k) (ρ x)).map .skip
  | .typeAssert x _ t ok => (itypeAssert P (ρ x) t ok).map (.val · h)
  | .extract t i => match ρ t with
    | .tuple vs => (vs[i]?).map (.val · h)
    | _ => none
  | .call c => match c.callee with
    | .value f => icall P (ρ f) (c.args.toList.map ρ)
    | .builtin b => ibuiltin P w0 h b c.argTypes.toList (c.args.toList.map ρ)
    | .invoke _ _ => none
  | .panic x => match ρ x with
    | .iface t v => some (.panic (.iface t v))
    | _ => none
  | _ => none

/-! ### Regions -/

inductive IExit where
  | normal
  | exit (id : Nat)
  | ret
  | panic (v : Value)

inductive IRet where
  | ret (v : Value)
  | pan (v : Value)

def ev (a : Array Value) : Operand → Value
  | .tmp t => a.getD t undef
  | .const v => v
  | .global g => .pointer (some ⟨g, 0, none⟩)
  | .func f => .func (.func f) #[] #[]

def iput (a : Array Value) (d : Option Tmp) (v : Value) : Array Value :=
  match d with
  | some t => a.setIfInBounds t v
  | none => a

abbrev Cl := FuncId → List Value → Heap → Option (IRet × Heap)

inductive IStep where
  | go (a : Array Value) (h : Heap)
  | pan (v : Value) (h : Heap)

def constOk : Operand → Bool
  | .const v => plainV v
  | .global _ => false
  | _ => true

def istep (P : Program) (w0 : World) (cl : Cl) (ops : Array Oper) (o : Oper) (a : Array Value) (h : Heap) : Option IStep :=
  if ¬ o.op.operands.toList.all constOk then none else
  if Region.wanted o (yielded ops a) then
    match iop P w0 h (ev a) o with
    | some (.val v h') => some (.go (iput a o.dst v) h')
    | some (.skip h') => some (.go (iput a o.dst undef) h')
    | some (.call f args) => match cl f args h with
      | some (.ret v, h') => some (.go (iput a o.dst v) h')
      | some (.pan v, h') => some (.pan v h')
      | none => none
    | some (.panic v) => some (.pan v h)
    | none => none
  else some (.go (iput a o.dst undef) h)

def irun (P : Program) (w0 : World) (cl : Cl) (ops : Array Oper) : List Oper → Array Value → Heap → Option (IExit × Array Value × Heap)
  | [], a, h => some (.normal, a, h)
  | o :: r, a, h => match istep P w0 cl ops o a h with
    | some (.go a' h') => irun P w0 cl ops r a' h'
    | some (.pan v h') => some (.panic v, a, h')
    | none => none

/-- What an operation does to memory: nothing, a look, or more. -/
inductive OKind where
  | pure | read | eff
  deriving DecidableEq

def okind (o : Oper) : OKind :=
  match o.op with
  | .move _ | .assign _ | .pick .. | .build .. | .nilCheck _ | .binOp .. | .unOp .. | .convert .. | .makeInterface .. | .makeFunc .. | .fieldAddr .. | .field .. | .indexAddr .. | .index .. | .extract .. | .typeAssert .. => .pure
  | .load .. | .slice .. | .lookup .. => .read
  | .call { callee := .builtin .len, .. } | .call { callee := .builtin .max, .. } | .call { callee := .builtin .min, .. } => .pure
  | _ => .eff

/-- The operations that must come ahead of each, by the edges. -/
def ancs (ops : List Oper) : List (List Nat) :=
  ops.foldl (fun acc o => acc ++ [(o.after.toList.filter fun e => Region.binds .any e).flatMap fun e => e.on :: acc.getD e.on []]) []

def ordered (an : List (List Nat)) (i j : Nat) : Bool := (an.getD j []).contains i || (an.getD i []).contains j

def dsts (ops : List Oper) : List (Option Tmp) := ops.map (·.dst)

/-- Static: each temporary is written once; who looks at one that another one writes is ordered with it; effects are in order. -/
def drawOk (ops : List Oper) : Bool :=
  let an := ancs ops
  let n := ops.length
  (List.range n).all fun j => (List.range j).all fun i =>
    match ops[i]?, ops[j]? with
    | some x, some y => ordered an i j || (x.apart ops.toArray y && !(okind x == .eff && okind y == .eff))
    | _, _ => false

/-- Edges point back. -/
def backOk (ops : List Oper) : Bool :=
  (List.range ops.length).all fun j => match ops[j]? with
    | some o => o.after.toList.all fun e => !(Region.binds .any e) || decide (e.on < j)
    | none => true

/-- Pairs of a look and an effect that the edges leave open. -/
def openPairs (ops : List Oper) : List (Nat × Nat) :=
  let an := ancs ops
  (List.range ops.length).flatMap fun j => ((List.range j).filter fun i =>
    match ops[i]?, ops[j]? with
    | some x, some y => !(ordered an i j) && ((okind x == .eff && okind y == .read) || (okind x == .read && okind y == .eff))
    | _, _ => false).map fun i => (i, j)

/-! ### Equality of values -/
mutual
def beqV : Value → Value → Bool
  | .bool a, .bool b => a == b
  | .int k a, .int k' b => decide (k = k') && decide (a = b)
  | .string a, .string b => decide (a.data.toList = b.data.toList)
  | .pointer a, .pointer b => decide (a = b)
  | .slice a n c, .slice b m d => decide (a = b) && decide (n = m) && decide (c = d)
  | .map a, .map b => decide (a = b)
  | .func f ⟨xs⟩ ⟨cs⟩, .func g ⟨ys⟩ ⟨ds⟩ => decide (f = g) && beqL xs ys && beqL cs ds
  | .nilFunc, .nilFunc => true
  | .iface t v, .iface u w => decide (t = u) && beqV v w
  | .nilIface, .nilIface => true
  | .agg ⟨xs⟩, .agg ⟨ys⟩ => beqL xs ys
  | .tuple ⟨xs⟩, .tuple ⟨ys⟩ => beqL xs ys
  | .float k a, .float k' b => decide (k = k') && decide (a = b)
  | .complex k a c, .complex k' b d => decide (k = k') && decide (a = b) && decide (c = d)
  | .chan a, .chan b => decide (a = b)
  | _, _ => false
  termination_by structural x => x
def beqL : List Value → List Value → Bool
  | [], [] => true
  | x :: xs, y :: ys => beqV x y && beqL xs ys
  | _, _ => false
  termination_by structural x => x
end
mutual
theorem beqV_self : ∀ v, beqV v v = true
  | .bool a => by simp [beqV]
  | .int k a => by simp [beqV]
  | .string a => by simp [beqV]
  | .pointer a => by simp [beqV]
  | .slice a n c => by simp [beqV]
  | .map a => by simp [beqV]
  | .func f ⟨xs⟩ ⟨cs⟩ => by simp [beqV, beqL_self xs, beqL_self cs]
  | .nilFunc => by simp [beqV]
  | .iface t v => by simp [beqV, beqV_self v]
  | .nilIface => by simp [beqV]
  | .agg ⟨xs⟩ => by simp [beqV, beqL_self xs]
  | .tuple ⟨xs⟩ => by simp [beqV, beqL_self xs]
  | .float k a => by simp [beqV]
  | .complex k a c => by simp [beqV]
  | .chan a => by simp [beqV]
theorem beqL_self : ∀ l, beqL l l = true
  | [] => by simp [beqL]
  | x :: xs => by simp [beqL, beqV_self x, beqL_self xs]
end
theorem bytes_ext {a b : ByteArray} (h : a.data.toList = b.data.toList) : a = b := by
  obtain ⟨⟨x⟩⟩ := a; obtain ⟨⟨y⟩⟩ := b; simp at h; subst h; rfl
mutual
theorem beqV_eq : ∀ v u, beqV v u = true → v = u
  | .bool a, u, h => by cases u <;> simp_all [beqV]
  | .int k a, u, h => by cases u <;> simp_all [beqV]
  | .string a, u, h => by
    cases u <;> simp [beqV] at h
    next b => cases a; cases b; simp_all
  | .pointer a, u, h => by cases u <;> simp_all [beqV]
  | .slice a n c, u, h => by cases u <;> simp_all [beqV]
  | .map a, u, h => by cases u <;> simp_all [beqV]
  | .func f ⟨xs⟩ ⟨cs⟩, u, h => by
    cases u <;> simp [beqV] at h
    next g ys ds => obtain ⟨ys⟩ := ys; obtain ⟨ds⟩ := ds; simp at h; rw [h.1.1, beqL_eq _ _ h.1.2, beqL_eq _ _ h.2]
  | .nilFunc, u, h => by cases u <;> simp_all [beqV]
  | .iface t v, u, h => by
    cases u <;> simp [beqV] at h
    rw [h.1, beqV_eq _ _ h.2]
  | .nilIface, u, h => by cases u <;> simp_all [beqV]
  | .agg ⟨xs⟩, u, h => by
    cases u <;> simp [beqV] at h
    next ys => obtain ⟨ys⟩ := ys; simp at h; rw [beqL_eq _ _ h]
  | .tuple ⟨xs⟩, u, h => by
    cases u <;> simp [beqV] at h
    next ys => obtain ⟨ys⟩ := ys; simp at h; rw [beqL_eq _ _ h]
  | .float k a, u, h => by cases u <;> simp_all [beqV]
  | .complex k a c, u, h => by cases u <;> simp_all [beqV]
  | .chan a, u, h => by cases u <;> simp_all [beqV]
theorem beqL_eq : ∀ v u, beqL v u = true → v = u
  | [], u, h => by cases u <;> simp_all [beqL]
  | x :: xs, u, h => by
    cases u <;> simp [beqL] at h
    rw [beqV_eq _ _ h.1, beqL_eq _ _ h.2]
end

/-- What one operation of a region did: its number, the temporaries and the heap ahead, the heap behind. -/
structure Rec where
  i : Nat
  a : Array Value
  h : Heap
  h' : Heap

def itrace (P : Program) (w0 : World) (cl : Cl) (ops : Array Oper) : Nat → List Oper → Array Value → Heap → Option (IExit × Array Value × Heap × List Rec)
  | _, [], a, h => some (.normal, a, h, [])
  | i, o :: r, a, h => match istep P w0 cl ops o a h with
    | some (.go a' h') => match itrace P w0 cl ops (i + 1) r a' h' with
      | some (e, a2, h2, tr) => some (e, a2, h2, ⟨i, a, h, h'⟩ :: tr)
      | none => none
    | some (.pan v h') => some (.panic v, a, h', [⟨i, a, h, h'⟩])
    | none => none

/-- A look tells the same in another heap. -/
def reval (P : Program) (w0 : World) (o : Oper) (a : Array Value) (h h2 : Heap) : Bool :=
  match iop P w0 h (ev a) o, iop P w0 h2 (ev a) o with
  | some (.val v _), some (.val u _) => beqV v u
  | _, _ => false

def chk (P : Program) (w0 : World) (ops : Array Oper) (tr : List Rec) (i j : Nat) : Bool :=
  match ops[i]?, ops[j]?, tr[i]?, tr[j]? with
  | some x, some y, some ri, some rj =>
    if okind x = .read then !(Region.wanted x (yielded ops ri.a)) || reval P w0 x ri.a ri.h rj.h'
    else !(Region.wanted y (yielded ops rj.a)) || reval P w0 y rj.a rj.h ri.h
  | _, _, _, _ => false

def idraw (P : Program) (w0 : World) (cl : Cl) (ops : Array Oper) (a : Array Value) (h : Heap) : Option (IExit × Array Value × Heap) :=
  if drawOk ops.toList && backOk ops.toList then
    match itrace P w0 cl ops 0 ops.toList a h with
    | some (e, a', h', tr) =>
      if (openPairs ops.toList).all (fun p => decide (tr.length ≤ p.2) || chk P w0 ops tr p.1 p.2) &&
        (match e with
         | .panic _ => (List.range ops.size).all fun j => decide (j < tr.length) || ordered (ancs ops.toList) (tr.length - 1) j
         | _ => true)
      then some (e, a', h') else none
    | none => none
  else none

/-! ### Code -/

def iter (body : Array Value → Heap → Option (IExit × Array Value × Heap)) : Nat → Array Value → Heap → Option (IExit × Array Value × Heap)
  | 0, _, _ => none
  | n + 1, a, h => match body a h with
    | some (.normal, a', h') => iter body n a' h'
    | some (e, a', h') => some (e, a', h')
    | none => none

def exec (P : Program) (w0 : World) (cl : Cl) (n : Nat) : Code → Array Value → Heap → Option (IExit × Array Value × Heap)
  | .skip, a, h => some (.normal, a, h)
  | .region _ ops false, a, h => irun P w0 cl ops ops.toList a h
  | .region _ ops true, a, h => idraw P w0 cl ops a h
  | .seq x y, a, h => match exec P w0 cl n x a h with
    | some (.normal, a', h') => exec P w0 cl n y a' h'
    | some (e, a', h') => some (e, a', h')
    | none => none
  | .cond c x y, a, h => if ¬ constOk c then none else match ev a c with
    | .bool t => if t then exec P w0 cl n x a h else exec P w0 cl n y a h
    | _ => none
  | .block id body, a, h => match exec P w0 cl n body a h with
    | some (.exit id', a', h') => some (if id' = id then .normal else .exit id', a', h')
    | some (e, a', h') => some (e, a', h')
    | none => none
  | .loop body, a, h => iter (exec P w0 cl n body) n a h
  | .exit id, a, h => some (.exit id, a, h)
  | .ret, a, h => some (.ret, a, h)
  | .label _, a, h => some (.normal, a, h)
  | .scope c, a, h => exec P w0 cl n c a h
  | _, _, _ => none

def iresult (P : Program) (w0 : World) (h : Heap) (a : Array Value) : ResultVar → Option Value
  | .tmp t => some (a.getD t undef)
  | .cell x t => match a.getD x undef with
    | .pointer (some ad) => iload P w0 h t ad
    | _ => none

def iresultL (P : Program) (w0 : World) (h : Heap) (a : Array Value) : List ResultVar → Option (List Value)
  | [] => some []
  | r :: rs => match iresult P w0 h a r, iresultL P w0 h a rs with
    | some v, some vs => some (v :: vs)
    | _, _ => none

def one (vs : List Value) : Value :=
  match vs with
  | [v] => v
  | vs => .tuple vs.toArray

/-- Functions that are not read but told. -/
abbrev Hooks := FuncId → Option (Cl → List Value → Heap → Option (IRet × Heap))

def call (P : Program) (w0 : World) (hk : Hooks) (n : Nat) : Nat → Cl
  | 0, _, _, _ => none
  | d + 1, f, args, h =>
    match hk f with
    | some k => k (call P w0 hk n d) args h
    | none => match P.funcs[f]? with
      | none => none
      | some fn => match fn.body with
        | none => none
        | some body =>
          if args.length ≤ fn.ntmps then
          match exec P w0 (call P w0 hk n d) n body (args.toArray ++ Array.replicate (fn.ntmps - args.length) undef) h with
          | some (.normal, a, h') => (iresultL P w0 h' a fn.results.toList).map fun vs => (.ret (one vs), h')
          | some (.ret, a, h') => (iresultL P w0 h' a fn.results.toList).map fun vs => (.ret (one vs), h')
          | some (.panic v, _, h') => some (.pan v, h')
          | _ => none
          else none

end Go.Ideal
