/- Part VexDefs of a checked interpreter for closed calls: what it answers, the machine of the model answers; its conditions are those of its theorems. -/
import GoSem.Step
set_option linter.unusedSimpArgs false
set_option linter.unusedVariables false
namespace Go.Vex

inductive E (α : Type) where
  | ok (a : α)
  | no (k : Nat)

def bd {α β : Type} (x : E α) (f : α → E β) : E β := match x with | .ok a => f a | .no k => .no k
def og {α : Type} (k : Nat) (x : Option α) : E α := match x with | some a => .ok a | none => .no k
def gd {β : Type} (k : Nat) (c : Bool) (x : E β) : E β := match c with | true => x | false => .no k

inductive T (α : Type) where
  | lf
  | nd (l : T α) (v : Option α) (r : T α)

def T.get {α : Type} : T α → Nat → Option α
  | .lf, _ => none
  | .nd l v r, n => match n.beq 0 with
    | true => v
    | false => match (n % 2).beq 1 with
      | true => l.get (n / 2)
      | false => r.get (n / 2 - 1)

def T.setF {α : Type} : Nat → T α → Nat → α → T α
  | 0, t, _, _ => t
  | f + 1, .lf, n, x => match n.beq 0 with
    | true => .nd .lf (some x) .lf
    | false => match (n % 2).beq 1 with
      | true => .nd (setF f .lf (n / 2) x) none .lf
      | false => .nd .lf none (setF f .lf (n / 2 - 1) x)
  | f + 1, .nd l v r, n, x => match n.beq 0 with
    | true => .nd l (some x) r
    | false => match (n % 2).beq 1 with
      | true => .nd (setF f l (n / 2) x) v r
      | false => .nd l v (setF f r (n / 2 - 1) x)

def T.set {α : Type} (t : T α) (n : Nat) (x : α) : T α := T.setF (n + 1) t n x

def T.ofL {α : Type} (t : T α) (o : Nat) : List α → T α
  | [] => t
  | v :: vs => T.ofL (t.set o v) (o + 1) vs

/-- a capacity: known, or not (then: how many cells an element has) -/
inductive Cp where
  | k (c : Nat)
  | u (e : Nat)

inductive AV where
  | bool (b : Bool)
  | int (k : IntKind) (n : Int)
  | str (s : List Nat)
  | ptr (b o : Nat)
  | nilptr
  | slice (b o len : Nat) (cap : Cp)
  | nilslice
  | map (b : Nat)
  | nilmap
  | func (f : FuncId) (first captured : List AV)
  | nilFunc
  | yieldv (l : Nat)
  | iface (t : TypeId) (v : AV)
  | nilIface
  | agg (cs : List AV)
  | tuple (cs : List AV)

inductive AB where
  | cells (n : Nat) (cs : T AV) (fz : Bool)
  | row (n : Nat) (cs : T AV) (g s : Nat)
  | map (es : List (AV × AV × Nat)) (clk : Nat)
  | loop (st : LoopState) (pend : Option Code) (fn : FuncId) (tm : T AV) (nt : Nat) (params : List Nat) (assign body : Code) (defers : Nat)
  | defr (empty : Bool)

structure H where
  m : T AB
  c : Nat
  g : T (List (Nat × Nat × Nat))

structure TI where
  u : TypeDesc
  size : Nat
  bytes : Nat
  agg : Bool
  zero : Option AV
  cmp : Bool
  /-- of a struct: where its fields lie, and how many cells each has -/
  pl : Option (List (Nat × Nat))
  st : Bool
  eg : Bool

/-- the abstract value of a constant -/
def absS : Value → Option AV
  | .bool b => some (.bool b)
  | .int k n => some (.int k n)
  | .string s => some (.str (s.data.toList.map (·.toNat)))
  | .pointer none => some .nilptr
  | .slice none 0 0 => some .nilslice
  | .map none => some .nilmap
  | .nilFunc => some .nilFunc
  | .nilIface => some .nilIface
  | _ => none

def absL : List Value → Option (List AV)
  | [] => some []
  | v :: vs => match absS v with
    | none => none
    | some a => match absL vs with
      | none => none
      | some as => some (a :: as)

def absC : Value → Option AV
  | .agg cs => (absL cs.toList).map .agg
  | .tuple cs => (absL cs.toList).map .tuple
  | v => absS v

def isAggD : TypeDesc → Bool
  | .struct _ | .array _ _ => true
  | _ => false

def places (P : Program) : List Field → Option (List (Nat × Nat))
  | [] => some []
  | f :: fs => match P.types[f.type]? with
    | none => none
    | some i => match places P fs with
      | none => none
      | some l => some ((f.offset, i.size) :: l)

def undOf (P : Program) (i : TypeInfo) : Option TypeDesc :=
  match i.desc with
  | .named _ u => match P.types[u]? with | none => none | some j => some j.desc
  | d => some d

def tiOf (P : Program) (t : TypeId) (i : TypeInfo) (u : TypeDesc) : TI :=
  { u, size := i.size, bytes := i.bytes, agg := isAggD u, zero := i.zero.bind absC, cmp := i.comparable,
    pl := (match u with | .struct fs => places P fs.toList | _ => none), st := P.stoodInHeld t, eg := P.eqGuardType P.depth t }

def mkTT (P : Program) : Nat → List TypeInfo → T TI → T TI
  | _, [], t => t
  | n, i :: is, t => mkTT P (n + 1) is (match undOf P i with | none => t | some u => t.set n (tiOf P n i u))

def mkFT : Nat → List Func → T Func → T Func
  | _, [], t => t
  | n, i :: is, t => mkFT (n + 1) is (t.set n i)

structure Env where
  tt : T TI
  ft : T Func
  /-- how many package-level variables there are -/
  ng : Nat
  /-- method table: type, name's own number, function, by pointer -/
  mt : List (TypeId × String × FuncId)
  /-- library functions by contract: strings.Fields -/
  fields : FuncId

def ev (Γ : Env) (tm : T AV) : Operand → E AV
  | .tmp t => .ok (match tm.get t with | some v => v | none => .tuple [])
  | .const v => og 10 (absC v)
  | .global g => gd 11 (Nat.blt g Γ.ng) (.ok (.ptr g 0))
  | .func f => .ok (.func f [] [])

def evs (Γ : Env) (tm : T AV) : List Operand → E (List AV)
  | [] => .ok []
  | x :: xs => bd (ev Γ tm x) fun v => bd (evs Γ tm xs) fun vs => .ok (v :: vs)

def AV.cells : AV → List AV
  | .agg cs => cs
  | v => [v]

def ile (a b : Int) : Bool := match Int.sub b a with | .ofNat _ => true | .negSucc _ => false
def ilt (a b : Int) : Bool := !ile b a
def ieq (a b : Int) : Bool := match a, b with
  | .ofNat m, .ofNat n => m.beq n
  | .negSucc m, .negSucc n => m.beq n
  | _, _ => false

def wr (k : IntKind) (n : Int) : Int := match k with
  | .i64 => match ile (-9223372036854775808) n && ile n 9223372036854775807 with | true => n | false => k.wrap n
  | .u8 => match ile 0 n && ile n 255 with | true => n | false => k.wrap n
  | _ => k.wrap n

def cellGet (h : H) (b o : Nat) : E AV :=
  match h.m.get b with
  | some (.cells _ cs _) => og 21 (cs.get o)
  | some (.row n cs _ _) => gd 22 (Nat.blt o n) (og 23 (cs.get o))
  | _ => .no 24

def cellsFrom (cs : T AV) : Nat → Nat → Option (List AV)
  | _, 0 => some []
  | o, k + 1 => match cs.get o with
    | none => none
    | some v => match cellsFrom cs (o + 1) k with
      | none => none
      | some vs => some (v :: vs)

def cellsGet (h : H) (b o k : Nat) : E (List AV) :=
  match k.beq 0 with
  | true => .ok []
  | false => match h.m.get b with
    | some (.cells _ cs _) => og 25 (cellsFrom cs o k)
    | some (.row n cs _ _) => gd 26 (Nat.ble (o + k) n) (og 27 (cellsFrom cs o k))
    | _ => .no 28

def cut2 (a b : Nat) : Nat := match Nat.ble a b with | true => a | false => b
/-- members of a group lose what lies from p on -/
def trunc (id p : Nat) : T AB → List (Nat × Nat × Nat) → E (T AB × List (Nat × Nat × Nat))
  | m, [] => .ok (m, [])
  | m, (j, s, n) :: L =>
    match j.beq id with
    | true => trunc id p m L
    | false => match Nat.ble (s + n) p with
      | true => .ok (m, (j, s, n) :: L)
      | false => match m.get j with
        | some (.row n0 cs g s0) => gd 29 (s.beq s0)
          (bd (trunc id p (m.set j (.row (cut2 n0 (p - s)) cs g s0)) L) fun r =>
            .ok (r.1, match (p - s).beq 0 with | true => r.2 | false => (j, s, p - s) :: r.2))
        | _ => .no 30

def oneC : AV → Bool
  | .agg _ | .tuple _ => false
  | _ => true
def allOne : List AV → Bool
  | [] => true
  | v :: vs => match oneC v with | true => allOne vs | false => false

def cellsPut (h : H) (b o : Nat) (vs : List AV) : E H :=
  match vs with
  | [] => .ok h
  | _ => gd 34 (allOne vs) (match h.m.get b with
    | some (.cells n cs false) => gd 31 (Nat.ble (o + vs.length) n) (.ok { h with m := h.m.set b (.cells n (cs.ofL o vs) false) })
    | some (.row n cs g s) => gd 32 (Nat.ble (o + vs.length) n)
      (bd (trunc b (s + o) h.m ((h.g.get g).getD [])) fun r =>
        .ok { h with m := r.1.set b (.row n (cs.ofL o vs) g s), g := h.g.set g ((b, s, n) :: r.2) })
    | _ => .no 33)

/-- a new block of which all is known -/
def newExact (h : H) (vs : List AV) : Nat × H := (h.c, { h with m := h.m.set h.c (.cells vs.length (T.ofL .lf 0 vs) false), c := h.c + 1 })
def newRowA (h : H) (vs : List AV) : Nat × H :=
  (h.c, { m := h.m.set h.c (.row vs.length (T.ofL .lf 0 vs) h.c 0), c := h.c + 1, g := h.g.set h.c [(h.c, 0, vs.length)] })

def loadA (Γ : Env) (h : H) (t : TypeId) (b o : Nat) : E AV :=
  bd (og 41 (Γ.tt.get t)) fun i => match i.agg with
    | true => bd (cellsGet h b o i.size) fun vs => .ok (.agg vs)
    | false => cellGet h b o

def storeA (Γ : Env) (h : H) (t : TypeId) (b o : Nat) (v : AV) : E H :=
  bd (og 42 (Γ.tt.get t)) fun i => gd 43 (v.cells.length.beq i.size) (cellsPut h b o v.cells)

def partA (Γ : Env) (t : TypeId) (cs : List AV) (off : Nat) : E AV :=
  bd (og 44 (Γ.tt.get t)) fun i => match i.agg with
    | true => .ok (.agg ((cs.drop off).take i.size))
    | false => og 45 (cs[off]?)

def splice (off : Nat) (vs : List AV) (cs : List AV) : List AV := cs.take off ++ vs ++ cs.drop (off + vs.length)

def fillA (Γ : Env) (place : Nat → Option (Nat × Nat)) : List (Nat × Operand) → T AV → List AV → E (List AV)
  | [], _, cs => .ok cs
  | (i, x) :: rest, tm, cs => bd (og 47 (place i)) fun p => bd (ev Γ tm x) fun v =>
      gd 46 (v.cells.length.beq p.2 && Nat.ble (p.1 + p.2) cs.length) (fillA Γ place rest tm (splice p.1 v.cells cs))

def repl (zero : List AV) : Nat → List AV
  | 0 => []
  | n + 1 => zero ++ repl zero n

def beqL : List Nat → List Nat → Bool
  | [], [] => true
  | a :: x, b :: y => match a.beq b with | true => beqL x y | false => false
  | _, _ => false
def bltL : List Nat → List Nat → Bool
  | _, [] => false
  | [], _ :: _ => true
  | a :: x, b :: y => match Nat.blt a b with | true => true | false => match a.beq b with | true => bltL x y | false => false

def kbeq : IntKind → IntKind → Bool
  | .i8, .i8 | .i16, .i16 | .i32, .i32 | .i64, .i64 | .u8, .u8 | .u16, .u16 | .u32, .u32 | .u64, .u64 => true
  | _, _ => false

def eqFields (Γ : Env) (eq : TypeId → AV → AV → E Bool) (xs ys : List AV) : List Field → E Bool
  | [] => .ok true
  | f :: fs => gd 57 (!(f.name == "_")) (bd (partA Γ f.type xs f.offset) fun a => bd (partA Γ f.type ys f.offset) fun b =>
      bd (eq f.type a b) fun e => match e with | true => eqFields Γ eq xs ys fs | false => .ok false)

/-- equality as Go's == has it -/
def eqA (Γ : Env) : Nat → TypeId → AV → AV → E Bool
  | 0, _, _, _ => .no 50
  | d + 1, t, x, y =>
    bd (og 51 (Γ.tt.get t)) fun i => match i.u, x, y with
    | .bool, .bool a, .bool b => .ok (match a with | true => b | false => !b)
    | .int _, .int k a, .int k' b => gd 52 (kbeq k k') (.ok (ieq a b))
    | .string, .str a, .str b => .ok (beqL a b)
    | .pointer _, .nilptr, .nilptr => .ok true
    | .pointer _, .nilptr, .ptr _ _ => .ok false
    | .pointer _, .ptr _ _, .nilptr => .ok false
    | .interface _, .nilIface, .nilIface => .ok true
    | .interface _, .nilIface, .iface _ _ | .interface _, .iface _ _, .nilIface => .ok false
    | .interface _, .iface tx vx, .iface ty vy => match tx.beq ty with
      | false => .ok false
      | true => bd (og 53 (Γ.tt.get tx)) fun j => gd 54 j.cmp (eqA Γ d tx vx vy)
    | .struct fields, .agg xs, .agg ys => gd 56 (!i.st) (eqFields Γ (eqA Γ d) xs ys fields.toList)
    | .slice _, .nilslice, .nilslice => .ok true
    | .slice _, .nilslice, .slice .. => .ok false
    | .slice _, .slice .., .nilslice => .ok false
    | .map _ _, .nilmap, .nilmap => .ok true
    | .map _ _, .nilmap, .map .. => .ok false
    | .map _ _, .map .., .nilmap => .ok false
    | .func _ _ _, .nilFunc, .nilFunc => .ok true
    | .func _ _ _, .nilFunc, .func .. => .ok false
    | .func _ _ _, .func .., .nilFunc => .ok false
    | _, _, _ => .no 55

def cmpA (op : BinOp) (lt eq gt : Bool) : E AV :=
  match op with
  | .eql => .ok (.bool eq)
  | .neq => .ok (.bool !eq)
  | .lss => .ok (.bool lt)
  | .leq => .ok (.bool (!gt))
  | .gtr => .ok (.bool gt)
  | .geq => .ok (.bool (!lt))
  | _ => .no 61

def isNilConst : Operand → Bool
  | .const _ => true
  | _ => false

def nn : AV → Bool
  | .int _ _ | .str _ => false
  | _ => true

def binA (Γ : Env) (op : BinOp) (t : TypeId) (ox oy : Operand) (x y : AV) : E AV :=
  match x, y with
  | .int k a, .int k' b => gd 64 (kbeq k k') (match op with
    | .add => .ok (.int k (wr k (a + b)))
    | .sub => .ok (.int k (wr k (a - b)))
    | .mul => .ok (.int k (wr k (a * b)))
    | .quo => match ieq b 0 with | true => .no 65 | false => .ok (.int k (wr k (Int.tdiv a b)))
    | .rem => match ieq b 0 with | true => .no 66 | false => .ok (.int k (Int.tmod a b))
    | .and | .or | .xor | .andNot => .no 62
    | .shl | .shr => .no 67
    | op => cmpA op (ilt a b) (ieq a b) (ilt b a))
  | .str a, .str b => match op with
    | .add => gd 68 (Nat.ble (a.length + b.length) 9223372036854775807) (.ok (.str (a ++ b)))
    | op => let e := beqL a b; let l := bltL a b; cmpA op l e (!(l || e))
  | x, y => gd 60 (nn x) (
    bd (match x, y with
      | .nilIface, .nilIface => gd 69 (isNilConst ox || isNilConst oy) (.ok ())
      | .agg _, .agg _ => bd (og 58 (Γ.tt.get t)) fun i => gd 59 (!i.eg) (.ok ())
      | _, _ => .ok ()) fun _ => match op with
      | .eql => bd (eqA Γ 10000 t x y) fun e => .ok (.bool e)
      | .neq => bd (eqA Γ 10000 t x y) fun e => .ok (.bool !e)
      | _ => .no 70)

def unA (op : UnOp) (x : AV) : E AV :=
  match op, x with
  | .neg, .int k n => .ok (.int k (wr k (0 - n)))
  | .not, .bool b => .ok (.bool (!b))
  | _, _ => .no 71

def convA (Γ : Env) (src dst : TypeId) (h : H) (x : AV) : E (AV × H) :=
  bd (og 72 (Γ.tt.get src)) fun s => bd (og 73 (Γ.tt.get dst)) fun d => match s.u, d.u, x with
  | _, .int k, .int _ n => .ok (.int k (wr k n), h)
  | _, .string, .str s => .ok (.str s, h)
  | _, _, _ => .no 74

def natOf (v : AV) : E Nat := match v with | .int _ (.ofNat n) => .ok n | _ => .no 75

def optNat (Γ : Env) (tm : T AV) (d : Nat) : Option Operand → E Nat
  | none => .ok d
  | some x => bd (ev Γ tm x) natOf

def sliceA (Γ : Env) (t : TypeId) (x : AV) (tm : T AV) (lo hi mx : Option Operand) : E AV :=
  bd (og 76 (Γ.tt.get t)) fun i => match i.u, x, mx with
  | .string, .str s, none =>
    bd (optNat Γ tm s.length hi) fun h => bd (optNat Γ tm 0 lo) fun l =>
      gd 77 (Nat.ble l h && Nat.ble h s.length) (.ok (.str ((s.drop l).take (h - l))))
  | .slice elem, .nilslice, none =>
    bd (optNat Γ tm 0 hi) fun h => bd (optNat Γ tm 0 lo) fun l => bd (og 78 (Γ.tt.get elem)) fun _ => gd 78 (h.beq 0 && l.beq 0) (.ok .nilslice)
  | .slice elem, .slice b o len cap, none =>
    bd (optNat Γ tm len hi) fun h => bd (optNat Γ tm 0 lo) fun l => bd (og 79 (Γ.tt.get elem)) fun e =>
      gd 80 (Nat.ble l h && Nat.ble h (match cap with | .k c => c | .u _ => len))
        (match cap with
         | .k c => .ok (.slice b (match c.beq l with | true => o | false => o + l * e.size) (h - l) (.k (c - l)))
         | .u s => gd 80 (s.beq e.size) (.ok (.slice b (o + l * e.size) (h - l) (.u s))))
  | .array n elem, .ptr b o, none =>
    bd (optNat Γ tm n hi) fun h => bd (optNat Γ tm 0 lo) fun l => bd (og 81 (Γ.tt.get elem)) fun e =>
      gd 82 (Nat.ble l h && Nat.ble h n)
        (.ok (.slice b (match n.beq l with | true => o | false => o + l * e.size) (h - l) (.k (n - l))))
  | _, _, _ => .no 83

def fieldAtA (Γ : Env) (s : TypeId) (x : AV) (f : Nat) : E AV :=
  bd (og 84 (Γ.tt.get s)) fun i => match i.u, x with
  | .struct fields, .ptr b o => bd (og 85 (fields.toList[f]?)) fun fl => bd (og 86 (Γ.tt.get fl.type)) fun fi =>
      match fi.size.beq 0 with | true => .no 87 | false => .ok (.ptr b (o + fl.offset))
  | _, _ => .no 88

def fieldA (Γ : Env) (s : TypeId) (x : AV) (f : Nat) : E AV :=
  bd (og 89 (Γ.tt.get s)) fun i => match i.u, x with
  | .struct fields, .agg cs => bd (og 90 (fields.toList[f]?)) fun fl => partA Γ fl.type cs fl.offset
  | _, _ => .no 91

def indexAtA (Γ : Env) (t : TypeId) (x ix : AV) : E AV :=
  bd (og 92 (Γ.tt.get t)) fun i => bd (natOf ix) fun k => match i.u, x with
  | .array len elem, .ptr b o => gd 93 (Nat.blt k len) (bd (og 94 (Γ.tt.get elem)) fun e => .ok (.ptr b (o + k * e.size)))
  | .slice elem, .slice b o len _ => gd 95 (Nat.blt k len) (bd (og 96 (Γ.tt.get elem)) fun e => .ok (.ptr b (o + k * e.size)))
  | _, _ => .no 97

def indexA (Γ : Env) (t : TypeId) (x ix : AV) : E AV :=
  bd (og 98 (Γ.tt.get t)) fun i => bd (natOf ix) fun k => match i.u, x with
  | .array len elem, .agg cs => gd 99 (Nat.blt k len) (bd (og 100 (Γ.tt.get elem)) fun e => partA Γ elem cs (k * e.size))
  | .string, .str s => bd (og 101 (s[k]?)) fun b => .ok (.int .u8 (.ofNat b))
  | _, _ => .no 102

def keyEq (x y : AV) : E Bool :=
  match x, y with
  | .int k a, .int k' b => gd 103 (kbeq k k') (.ok (ieq a b))
  | .str a, .str b => .ok (beqL a b)
  | _, _ => .no 104

def findE (k : AV) : List (AV × AV × Nat) → E (Option AV)
  | [] => .ok none
  | (k', v, _) :: es => bd (keyEq k k') fun e => match e with | true => .ok (some v) | false => findE k es

def setE (k v : AV) : List (AV × AV × Nat) → Nat → E (List (AV × AV × Nat) × Nat)
  | [], clk => .ok ([(k, v, clk)], clk + 1)
  | (k', v', n) :: es, clk => bd (keyEq k k') fun e => match e with
    | true => .ok ((k, v, n) :: es, clk)
    | false => bd (setE k v es clk) fun (es', c') => .ok ((k', v', n) :: es', c')

def keyKind (u : TypeDesc) (k : AV) : Bool :=
  match u, k with
  | .int _, .int _ _ => true
  | .string, .str _ => true
  | _, _ => false

def lookA (Γ : Env) (t : TypeId) (h : H) (x k : AV) (ok : Bool) : E AV :=
  bd (og 105 (Γ.tt.get t)) fun i => match i.u with
  | .map key elem => bd (og 106 (Γ.tt.get key)) fun ki => gd 107 (keyKind ki.u k)
    (bd (match x with
      | .nilmap => .ok none
      | .map b => match h.m.get b with
        | some (.map es _) => findE k es
        | _ => .no 108
      | _ => .no 109) fun r =>
      bd (match r with | some v => .ok (v, true) | none => bd (og 110 (Γ.tt.get elem)) fun e => bd (og 111 e.zero) fun z => .ok (z, false)) fun (v, b) =>
        .ok (match ok with | true => .tuple [v, .bool b] | false => v))
  | _ => .no 112

def updA (Γ : Env) (t : TypeId) (h : H) (x k v : AV) : E H :=
  bd (og 113 (Γ.tt.get t)) fun i => match i.u, x with
  | .map key _, .map b => bd (og 114 (Γ.tt.get key)) fun ki => gd 115 (keyKind ki.u k)
    (match h.m.get b with
      | some (.map es clk) => bd (setE k v es clk) fun (es', c') => .ok { h with m := h.m.set b (.map es' c') }
      | _ => .no 116)
  | _, _ => .no 117

def assertA (Γ : Env) (x : AV) (asserted : TypeId) (ok : Bool) : E AV :=
  bd (og 118 (Γ.tt.get asserted)) fun i => match i.u, x with
  | .interface _, _ => .no 119
  | _, .iface t v => match t.beq asserted with
    | true => .ok (match ok with | true => .tuple [v, .bool true] | false => v)
    | false => match ok with
      | true => bd (og 120 i.zero) fun z => .ok (.tuple [z, .bool false])
      | false => .no 121
  | _, .nilIface => match ok with
      | true => bd (og 122 i.zero) fun z => .ok (.tuple [z, .bool false])
      | false => .no 123
  | _, _ => .no 124

def lenA (Γ : Env) (t : TypeId) (h : H) (x : AV) : E AV :=
  bd (og 125 (Γ.tt.get t)) fun i => match i.u, x with
  | .string, .str s => .ok (.int .i64 (.ofNat s.length))
  | .array n _, _ => .ok (.int .i64 (.ofNat n))
  | .slice _, .nilslice => .ok (.int .i64 0)
  | .slice _, .slice _ _ n _ => .ok (.int .i64 (.ofNat n))
  | .map _ _, .nilmap => .ok (.int .i64 0)
  | .map _ _, .map b => match h.m.get b with
    | some (.map es _) => .ok (.int .i64 (.ofNat es.length))
    | _ => .no 126
  | _, _ => .no 127

/-- the cells of the first n elements of a slice -/
def firstA (h : H) (size n : Nat) : AV → E (List AV)
  | .nilslice => .ok []
  | .slice b o _ _ => cellsGet h b o (n * size)
  | _ => .no 128

def lenOfA : AV → E Nat
  | .nilslice => .ok 0
  | .slice _ _ n _ => .ok n
  | _ => .no 129

def bytesA (s : List Nat) : List AV := s.map fun b => .int .u8 (.ofNat b)

/-- a new row in the group of an old one: what stands from p on in the others is lost -/
def growRow (h : H) (b o : Nat) (used : Nat) (vs : List AV) : E (Nat × H) :=
  match h.m.get b with
  | some (.row n _ g s) => gd 129 (Nat.ble (o + used) n)
    (bd (trunc h.c (s + o + used) h.m ((h.g.get g).getD [])) fun r =>
      .ok (h.c, { m := r.1.set h.c (.row vs.length (T.ofL .lf 0 vs) g (s + o)), c := h.c + 1, g := h.g.set g ((h.c, s + o, vs.length) :: r.2) }))
  | _ => .no 130

/-- what stands behind the slice in an append: how many elements, and their cells -/
def newsA (h : H) (e : TI) (z : AV) (u2 : TypeDesc) (x : AV) : E (Nat × List AV) :=
  match u2 with
  | .int _ => bd (natOf x) fun n => .ok (n, repl z.cells n)
  | .slice _ => bd (lenOfA x) fun n => bd (firstA h e.size n x) fun new => .ok (n, new)
  | .string => match x with
    | .str s => gd 132 (e.size.beq 1) (.ok (s.length, bytesA s))
    | _ => .no 132
  | _ => .no 131

def appA (Γ : Env) (t t2 : TypeId) (h : H) (s x : AV) : E (AV × H) :=
  bd (og 131 (Γ.tt.get t)) fun i => bd (og 132 (Γ.tt.get t2)) fun i2 => match i.u with
  | .slice elem => bd (og 134 (Γ.tt.get elem)) fun e => bd (og 133 e.zero) fun z =>
    gd 133 (z.cells.length.beq e.size && (Nat.ble e.bytes 4096 && Nat.blt 0 e.bytes)) (bd (newsA h e z i2.u x) fun p =>
    gd 135 (Nat.ble p.1 1000000) (match s with
    | .nilslice => match p.1.beq 0 with
      | true => .ok (.nilslice, h)
      | false => .ok (.slice h.c 0 p.1 (.u e.size), (newRowA h p.2).2)
    | .slice b o len (.k c) => match Nat.ble (len + p.1) c with
      | true => bd (cellsPut h b (o + len * e.size) p.2) fun h' => .ok (.slice b o (len + p.1) (.k c), h')
      | false => gd 136 (Nat.ble len 1000000) (bd (cellsGet h b o (len * e.size)) fun old =>
          .ok (.slice h.c 0 (len + p.1) (.u e.size), (newRowA h (old ++ p.2)).2))
    | .slice b o len (.u es) => gd 137 (Nat.ble len 1000000 && (es.beq e.size && allOne p.2)) (bd (cellsGet h b o (len * e.size)) fun old =>
        bd (growRow h b o (len * e.size) (old ++ p.2)) fun q => .ok (.slice q.1 0 (len + p.1) (.u e.size), q.2))
    | _ => .no 138))
  | _ => .no 139

def copyA (Γ : Env) (t : TypeId) (h : H) (d s : AV) : E (AV × H) :=
  bd (og 140 (Γ.tt.get t)) fun i => match i.u with
  | .slice elem => bd (og 141 (Γ.tt.get elem)) fun e => bd (lenOfA s) fun n => bd (lenOfA d) fun m =>
    bd (firstA h e.size (cut2 n m) s) fun new => match d with
      | .slice b o _ _ => bd (cellsPut h b o new) fun h' => .ok (.int .i64 (.ofNat (cut2 n m)), h')
      | .nilslice => .ok (.int .i64 (.ofNat (cut2 n m)), h)
      | _ => .no 142
  | _ => .no 143

def mxA (mx : Bool) (x y : AV) : E AV :=
  match x, y with
  | .int k a, .int _ b => .ok (.int k (match (match mx with | true => ilt a b | false => ilt b a) with | true => b | false => a))
  | _, _ => .no 144

def foldE (f : AV → AV → E AV) : AV → List AV → E AV
  | a, [] => .ok a
  | a, b :: l => bd (f a b) fun c => foldE f c l

inductive R where
  | val (v : AV) (h : H)
  | skip (h : H)
  | enter (f : FuncId) (args : List AV) (h : H)
  | fields (s : List Nat) (h : H)
  | defer (f : FuncId) (args : List AV)
  | recov
  | panic (v : AV)
  | yield (l : Nat) (args : List AV)

def biA (Γ : Env) (b : Builtin) (ts : List TypeId) (args : List AV) (h : H) : E R :=
  match b, ts, args with
  | .len, t :: _, [x] => bd (lenA Γ t h x) fun v => .ok (.val v h)
  | .append, t :: t2 :: _, [s, x] => bd (appA Γ t t2 h s x) fun (v, h') => .ok (.val v h')
  | .copy, t :: _, [d, s] => bd (copyA Γ t h d s) fun (v, h') => .ok (.val v h')
  | .max, _, x :: xs => bd (foldE (mxA true) x xs) fun v => .ok (.val v h)
  | .min, _, x :: xs => bd (foldE (mxA false) x xs) fun v => .ok (.val v h)
  | .recover, _, _ => .ok .recov
  | _, _, _ => .no 145

def lookM (t : TypeId) (name : String) : List (TypeId × String × FuncId) → E FuncId
  | [] => .no 146
  | (t', n, f) :: l => match t.beq t' with
    | true => match n == name with | true => .ok f | false => lookM t name l
    | false => lookM t name l

def callF (Γ : Env) (f : FuncId) (args : List AV) (h : H) : E R :=
  match f.beq Γ.fields with
  | true => match args with
    | [.str s] => .ok (.fields s h)
    | _ => .no 147
  | false => .ok (.enter f args h)

def callA (Γ : Env) (tm : T AV) (c : Call) (h : H) : E R :=
  bd (evs Γ tm c.args.toList) fun args => match c.callee with
  | .builtin b => biA Γ b c.argTypes.toList args h
  | .value (.func f) => callF Γ f args h
  | .value o => bd (ev Γ tm o) fun v => match v with
    | .func f first captured => callF Γ f (first ++ (args ++ captured)) h
    | .yieldv l => .ok (.yield l args)
    | _ => .no 148
  | .invoke o name => bd (ev Γ tm o) fun v => match v with
    | .iface t x => bd (lookM t name Γ.mt) fun f => callF Γ f (x :: args) h
    | _ => .no 149

def opA (Γ : Env) (tm : T AV) (h : H) (o : Oper) : E R :=
  match o.op with
  | .move x | .assign x => bd (ev Γ tm x) fun v => .ok (.val v h)
  | .pick c a b => bd (ev Γ tm c) fun cv => match cv with
    | .bool true => bd (ev Γ tm a) fun v => .ok (.val v h)
    | .bool false => bd (ev Γ tm b) fun v => .ok (.val v h)
    | _ => .no 150
  | .alloc t => bd (og 151 (Γ.tt.get t)) fun i => bd (og 152 i.zero) fun z => let r := newExact h z.cells; .ok (.val (.ptr r.1 0) r.2)
  | .box _ x => bd (ev Γ tm x) fun v => let r := newExact h v.cells; .ok (.val (.ptr r.1 0) r.2)
  | .build t parts => bd (og 153 (Γ.tt.get t)) fun i => bd (og 154 i.zero) fun z => match i.u with
    | .struct _ => bd (og 155 i.pl) fun pl => bd (fillA Γ (fun k => pl[k]?) parts.toList tm z.cells) fun cs => .ok (.val (.agg cs) h)
    | .array _ elem => bd (og 157 (Γ.tt.get elem)) fun e =>
      bd (fillA Γ (fun k => some (k * e.size, e.size)) parts.toList tm z.cells) fun cs => .ok (.val (.agg cs) h)
    | _ => .no 158
  | .buildSlice t len parts => bd (og 159 (Γ.tt.get t)) fun i => match i.u with
    | .slice elem => bd (og 160 (Γ.tt.get elem)) fun e => bd (og 161 e.zero) fun z =>
      gd 162 (Nat.ble (len * e.size) 16777216 && z.cells.length.beq e.size)
      (bd (fillA Γ (fun k => some (k * e.size, e.size)) parts.toList tm (repl z.cells len)) fun cs =>
        let r := newExact h cs; .ok (.val (.slice r.1 0 len (.k len)) r.2))
    | _ => .no 163
  | .load t a => bd (ev Γ tm a) fun v => match v with
    | .ptr b o => bd (loadA Γ h t b o) fun x => .ok (.val x h)
    | _ => .no 164
  | .store t a x => bd (ev Γ tm a) fun v => bd (ev Γ tm x) fun y => match v with
    | .ptr b o => bd (storeA Γ h t b o y) fun h' => .ok (.skip h')
    | _ => .no 165
  | .nilCheck x => bd (ev Γ tm x) fun v => match v with
    | .ptr .. => .ok (.val v h)
    | .func .. => .ok (.val v h)
    | .iface .. => .ok (.val v h)
    | _ => .no 166
  | .binOp op t x y _ => bd (ev Γ tm x) fun a => bd (ev Γ tm y) fun b => bd (binA Γ op t x y a b) fun v => .ok (.val v h)
  | .unOp op _ x => bd (ev Γ tm x) fun a => bd (unA op a) fun v => .ok (.val v h)
  | .convert s d x => bd (ev Γ tm x) fun a => bd (convA Γ s d h a) fun (v, h') => .ok (.val v h')
  | .makeInterface t x => bd (ev Γ tm x) fun a => bd (og 167 (Γ.tt.get t)) fun i => match i.u with
    | .interface _ => .no 168
    | _ => .ok (.val (.iface t a) h)
  | .makeFunc (.func f) first captured => bd (evs Γ tm first.toList) fun a => bd (evs Γ tm captured.toList) fun b => .ok (.val (.func f a b) h)
  | .makeMap _ none => .ok (.val (.map h.c) { h with m := h.m.set h.c (.map [] 0), c := h.c + 1 })
  | .makeSlice t l c => bd (og 169 (Γ.tt.get t)) fun i => match i.u with
    | .slice elem => bd (og 170 (Γ.tt.get elem)) fun e => bd (og 171 e.zero) fun z => bd (bd (ev Γ tm l) natOf) fun ln => bd (bd (ev Γ tm c) natOf) fun cn =>
      gd 172 (Nat.ble ln cn && (Nat.ble (e.bytes * cn) 1000000000 && (Nat.ble cn 1000000000 && z.cells.length.beq e.size)))
      (let r := newExact h (repl z.cells cn); .ok (.val (.slice r.1 0 ln (.k cn)) r.2))
    | _ => .no 173
  | .slice t x lo hi mx => bd (ev Γ tm x) fun a => bd (sliceA Γ t a tm lo hi mx) fun v => .ok (.val v h)
  | .fieldAddr s x f => bd (ev Γ tm x) fun a => bd (fieldAtA Γ s a f) fun v => .ok (.val v h)
  | .field s x f => bd (ev Γ tm x) fun a => bd (fieldA Γ s a f) fun v => .ok (.val v h)
  | .indexAddr t x ix => bd (ev Γ tm x) fun a => bd (ev Γ tm ix) fun k => bd (indexAtA Γ t a k) fun v => .ok (.val v h)
  | .index t x ix => bd (ev Γ tm x) fun a => bd (ev Γ tm ix) fun k => bd (indexA Γ t a k) fun v => .ok (.val v h)
  | .lookup t x ix ok => bd (ev Γ tm x) fun a => bd (ev Γ tm ix) fun k => bd (lookA Γ t h a k ok) fun v => .ok (.val v h)
  | .mapUpdate t m k x | .insert t m k x => bd (ev Γ tm m) fun a => bd (ev Γ tm k) fun kk => bd (ev Γ tm x) fun v => bd (updA Γ t h a kk v) fun h' => .ok (.skip h')
  | .typeAssert x _ asserted ok => bd (ev Γ tm x) fun a => bd (assertA Γ a asserted ok) fun v => .ok (.val v h)
  | .extract t ix => bd (ev Γ tm t) fun a => match a with
    | .tuple vs => bd (og 174 (vs[ix]?)) fun v => .ok (.val v h)
    | _ => .no 175
  | .call c => callA Γ tm c h
  | .defer c => bd (evs Γ tm c.args.toList) fun args => match c.callee with
    | .value (.func f) => .ok (.defer f args)
    | .value o => bd (ev Γ tm o) fun v => match v with
      | .func f first captured => .ok (.defer f (first ++ (args ++ captured)))
      | _ => .no 176
    | _ => .no 177
  | .panic x => bd (ev Γ tm x) fun v => match v with
    | .iface .. => .ok (.panic v)
    | _ => .no 178
  | _ => .no 179


mutual
def avEq : AV → AV → Bool
  | .bool a, .bool b => (match a with | true => b | false => !b)
  | .int k a, .int k' b => kbeq k k' && ieq a b
  | .str a, .str b => beqL a b
  | .ptr b o, .ptr b' o' => b.beq b' && o.beq o'
  | .nilptr, .nilptr => true
  | .slice b o l (.u c), .slice b' o' l' (.u c') => b.beq b' && (o.beq o' && (l.beq l' && c.beq c'))
  | .slice b o l (.k c), .slice b' o' l' (.k c') => b.beq b' && (o.beq o' && (l.beq l' && c.beq c'))
  | .nilslice, .nilslice => true
  | .map b, .map b' => b.beq b'
  | .nilmap, .nilmap => true
  | .func f a c, .func f' a' c' => f.beq f' && (avEqL a a' && avEqL c c')
  | .nilFunc, .nilFunc => true
  | .yieldv l, .yieldv l' => l.beq l'
  | .iface t v, .iface t' v' => t.beq t' && avEq v v'
  | .nilIface, .nilIface => true
  | .agg a, .agg b => avEqL a b
  | .tuple a, .tuple b => avEqL a b
  | _, _ => false
def avEqL : List AV → List AV → Bool
  | [], [] => true
  | a :: x, b :: y => avEq a b && avEqL x y
  | _, _ => false
end

/-! the plan of a region that draws its order -/

def cls : Op → Nat
  | .move _ | .assign _ | .pick .. | .nilCheck _ | .binOp .. | .unOp .. | .convert .. | .makeInterface .. | .makeFunc .. | .slice .. | .fieldAddr .. | .field ..
  | .indexAddr .. | .index .. | .typeAssert .. | .extract .. | .build .. => 0
  | .load .. | .lookup .. => 1
  | .alloc _ | .box .. | .buildSlice .. | .makeMap .. | .makeSlice .. => 2
  | .call { callee := .builtin b, .. } => match b with | .len => 1 | .max | .min => 0 | _ => 3
  | _ => 3

def hasBit (m i : Nat) : Bool := (Nat.land (Nat.shiftRight m i) 1).beq 1

/-- of each operation: which must have run before it -/
def maskOf (ms : T Nat) (i : Nat) : List Edge → Option Nat
  | [] => some 0
  | e :: es => match maskOf ms i es with
    | none => none
    | some s => match Region.binds .any e with
      | true => (match Nat.blt e.on i with
        | true => some (Nat.lor (Nat.lor s (2 ^ e.on)) ((ms.get e.on).getD 0))
        | false => none)
      | false => some s

def tmpsOp : List Operand → List Nat
  | [] => []
  | .tmp t :: xs => t :: tmpsOp xs
  | _ :: xs => tmpsOp xs

def tmpsOf (o : Oper) (ops : List Oper) : List Nat :=
  match o.guard with
  | some (g, _) => (match (ops[g]?).bind (·.dst) with
    | some t => t :: tmpsOp o.op.operands.toList
    | none => tmpsOp o.op.operands.toList)
  | none => tmpsOp o.op.operands.toList

def allR (w : T Nat) (m : Nat) : List Nat → Bool
  | [] => true
  | t :: ts => match w.get t with
    | none => allR w m ts
    | some k => match hasBit m k with | true => allR w m ts | false => false

/-- who reads which slot, as a mask -/
def addR (i : Nat) : List Nat → T Nat → T Nat
  | [], t => t
  | k :: ks, t => addR i ks (t.set k (Nat.lor ((t.get k).getD 0) (2 ^ i)))

/-- masks; and that each slot is written once, and read either behind that or before -/
def wfGo (ops : List Oper) (nt : Nat) : List Oper → Nat → T Nat → T Nat → T Nat → Option (T Nat)
  | [], _, ms, _, _ => some ms
  | o :: os, i, ms, w, rd =>
    match maskOf ms i o.after.toList with
    | none => none
    | some m =>
      let ts := tmpsOf o ops
      match allR w m ts with
      | false => none
      | true => match o.dst with
        | none => wfGo ops nt os (i + 1) (ms.set i m) w (addR i ts rd)
        | some d => match w.get d, (Nat.land m ((rd.get d).getD 0)).beq ((rd.get d).getD 0), Nat.blt d nt with
          | none, true, true => wfGo ops nt os (i + 1) (ms.set i m) (w.set d i) (addR i ts rd)
          | _, _, _ => none

def restr (tm : T AV) : List Nat → T AV
  | [] => .lf
  | t :: ts => match tm.get t with
    | none => restr tm ts
    | some v => (restr tm ts).set t v

def wantedA (o : Oper) (ops : List Oper) (tm : T AV) : E Bool :=
  match o.guard with
  | none => .ok true
  | some (j, want) => bd (og 191 (ops[j]?)) fun oj => match oj.dst with
    | none => .no 192
    | some t => match tm.get t with
      | some (.bool b) => .ok (match want with | true => b | false => !b)
      | _ => .ok false

inductive BR where
  | ret (fn : FuncId) (v : AV) (h : H)
  | retR (v : AV) (h : H)
  | pan (ch : List (AV × Bool)) (h : H)

def setDst (o : Oper) (v : AV) (nt : Nat) (tm : T AV) : E (T AV) :=
  match o.dst with
  | none => .ok tm
  | some d => gd 193 (Nat.blt d nt) (.ok (tm.set d v))

/-! the machine -/

inductive AItem where
  | code (c : Code)
  | inBlock (id : Nat)
  | inLoop (body : Code)
  | inScope (body : Code)
  | ops (all : List Oper) (rem : List Oper)
  | inRF (l : Nat)
  | endRF (l : Nat)
  | beginRound

inductive AM where
  | run
  | returning
  | pan (ch : List (AV × Bool))

inductive AD where
  | fn (f : FuncId) (args : List AV)
  | coll (b : Nat)

structure AF where
  fn : FuncId
  tm : T AV
  nt : Nat
  todo : List AItem
  defers : List AD
  mode : AM
  dfr : Bool
  rnd : Option Nat

def popExit (id : Nat) : List AItem → Option (List AItem)
  | .inBlock id' :: k => match id'.beq id with | true => some k | false => popExit id k
  | _ :: k => popExit id k
  | [] => none

def gotoA (l : Nat) : List AItem → Option (List AItem)
  | .inScope body :: k => match findLabel body l with
    | some rest => some (.code rest :: .inScope body :: k)
    | none => gotoA l k
  | _ :: k => gotoA l k
  | [] => none

def restItem (all rem : List Oper) (k : List AItem) : List AItem :=
  match rem with
  | [] => k
  | _ => .ops all rem :: k

def finishA (f : AF) (v : AV) : E AF :=
  match f.mode with
  | .run => match f.todo with
    | .ops all (o :: rem) :: k => bd (setDst o v f.nt f.tm) fun tm' => .ok { f with tm := tm', todo := restItem all rem k }
    | .inRF l :: k => .ok { f with todo := .endRF l :: k }
    | _ => .no 201
  | _ => .no 200

def raiseA (f : AF) (ch : List (AV × Bool)) : AF :=
  match f.mode with
  | .pan old => { f with mode := .pan (ch ++ old) }
  | _ => { f with mode := .pan ch }

inductive St where
  | go (f : AF) (cs : List AF) (h : H)
  | done (fn : FuncId) (v : AV) (h : H)
  | doneR (v : AV) (h : H)
  | dead (ch : List (AV × Bool)) (h : H)

def enterA (Γ : Env) (f : FuncId) (args : List AV) (dfr : Bool) : E AF :=
  bd (og 202 (Γ.ft.get f)) fun fn => bd (og 203 fn.body) fun c =>
    gd 204 (Nat.ble args.length fn.ntmps)
    (.ok { fn := f, tm := T.ofL .lf 0 args, nt := fn.ntmps, todo := [.code c], defers := [], mode := .run, dfr, rnd := none })

def foldSet : List Nat → List AV → T AV → T AV
  | t :: ts, v :: vs, tm => foldSet ts vs (tm.set t v)
  | _, _, tm => tm

def roundA (l : Nat) (args : List AV) (h : H) : E AF :=
  match h.m.get l with
  | some (.loop _ _ fn tm nt ps a b _) => gd 212 (args.length.beq ps.length && ps.all (Nat.blt · nt))
    (.ok { fn, tm := foldSet ps args tm, nt, todo := [.code a, .beginRound, .code b], defers := [], mode := .run, dfr := false, rnd := some l })
  | _ => .no 213

inductive NewV where
  | ptr
  | slice (l c : Nat)
  | map

def NewV.at (b : Nat) : NewV → AV
  | .ptr => .ptr b 0
  | .slice l c => .slice b 0 l (.k c)
  | .map => .map b

def exact (vs : List AV) : AB := .cells vs.length (T.ofL .lf 0 vs) false

/-- what an operation of class 2 makes -/
def allocA (Γ : Env) (tm : T AV) (o : Oper) : E (AB × NewV) :=
  match o.op with
  | .alloc t => bd (og 151 (Γ.tt.get t)) fun i => bd (og 152 i.zero) fun z => .ok (exact z.cells, .ptr)
  | .box _ x => bd (ev Γ tm x) fun v => .ok (exact v.cells, .ptr)
  | .buildSlice t len parts => bd (og 159 (Γ.tt.get t)) fun i => match i.u with
    | .slice elem => bd (og 160 (Γ.tt.get elem)) fun e => bd (og 161 e.zero) fun z =>
      gd 162 (Nat.ble (len * e.size) 16777216 && z.cells.length.beq e.size)
      (bd (fillA Γ (fun k => some (k * e.size, e.size)) parts.toList tm (repl z.cells len)) fun cs => .ok (exact cs, .slice len len))
    | _ => .no 163
  | .makeMap _ none => .ok (.map [] 0, .map)
  | _ => .no 180

def allB (m : Nat) : List Nat → Bool
  | [] => true
  | p :: ps => match hasBit m p with | true => allB m ps | false => false
def noneB (m : Nat) : List Nat → Bool
  | [] => true
  | p :: ps => match hasBit m p with | true => false | false => noneB m ps

/-- the new blocks that are needed now go into the heap; the others wait -/
def promo (m c0 : Nat) : List (Nat × AB) → H → H
  | [], h => h
  | (i, ab) :: ps, h => match hasBit m i with
    | true => promo m c0 ps { h with m := h.m.set (c0 + i) ab }
    | false => promo m c0 ps h
def rest (m : Nat) : List (Nat × AB) → List (Nat × AB)
  | [] => []
  | (i, ab) :: ps => match hasBit m i with
    | true => rest m ps
    | false => (i, ab) :: rest m ps

inductive HV where
  | v (v : AV) (h : H)
  | p (ch : List (AV × Bool)) (h : H)

/-- a heavy operation, run -/
def heavyA (Γ : Env) (big : AF → H → E BR) (tm : T AV) (h : H) (o : Oper) : E HV :=
  bd (opA Γ tm h o) fun r => match r with
    | .val v h' => .ok (.v v h')
    | .skip h' => .ok (.v (.tuple []) h')
    | .enter f args h' => bd (enterA Γ f args false) fun c => bd (big c h') fun r => match r with
      | .ret _ v h'' => .ok (.v v h'')
      | .pan ch h'' => .ok (.p ch h'')
      | _ => .no 195
    | .yield l args => bd (roundA l args h) fun c => bd (big c h) fun r => match r with
      | .retR v h'' => .ok (.v v h'')
      | .pan ch h'' => .ok (.p ch h'')
      | _ => .no 195
    | _ => .no 194

/-- what a pass over the operations comes to: slots, heap, new blocks that wait, heavy ones, their heaps, and the heavy one that panicked, if one did -/
structure PG where
  tm : T AV
  h : H
  pend : List (Nat × AB)
  hs : List Nat
  vs : List H
  /-- what was read: by which, where the operands stand, and what came -/
  rds : List (Nat × Oper × T AV × AV)
  dd : Option (Nat × List (AV × Bool) × H)

/-- does it come behind the one that panicked -/
def dead (dd : Option (Nat × List (AV × Bool) × H)) (m : Nat) : Bool :=
  match dd with
  | none => false
  | some p => hasBit m p.1

def valOf (r : R) : E AV := match r with | .val v _ => .ok v | _ => .no 196

/-- the operations in their own order -/
def passGo (Γ : Env) (big : AF → H → E BR) (ops : List Oper) (ms : T Nat) (nt c0 : Nat) : List Oper → Nat → PG → E PG
  | [], _, s => .ok s
  | o :: os, i, s =>
    let m := (ms.get i).getD 0
    match dead s.dd m with
    | true => passGo Γ big ops ms nt c0 os (i + 1) s
    | false =>
    let tr := restr s.tm (tmpsOf o ops)
    bd (wantedA o ops s.tm) fun w => match cls o.op with
      | 0 => bd (match w with | true => bd (opA Γ tr s.h o) valOf | false => .ok (.tuple [])) fun v =>
          bd (setDst o v nt s.tm) fun tm' => passGo Γ big ops ms nt c0 os (i + 1) { s with tm := tm' }
      | 1 => (match w with
        | true => bd (bd (opA Γ tr s.h o) valOf) fun v =>
          bd (setDst o v nt s.tm) fun tm' => passGo Γ big ops ms nt c0 os (i + 1) { s with tm := tm', rds := (i, o, tr, v) :: s.rds }
        | false => bd (setDst o (.tuple []) nt s.tm) fun tm' => passGo Γ big ops ms nt c0 os (i + 1) { s with tm := tm' })
      | 2 => (match w with
        | true => bd (allocA Γ tr o) fun p => bd (setDst o (p.2.at (c0 + i)) nt s.tm) fun tm' => passGo Γ big ops ms nt c0 os (i + 1) { s with tm := tm', pend := (i, p.1) :: s.pend }
        | false => bd (setDst o (.tuple []) nt s.tm) fun tm' => passGo Γ big ops ms nt c0 os (i + 1) { s with tm := tm' })
      | _ => gd 197 (allB m s.hs && s.dd.isNone)
        (let h1 := promo m c0 s.pend s.h
         bd (match w with | true => heavyA Γ big tr h1 o | false => .ok (.v (.tuple []) h1)) fun p => match p with
           | .v v h2 => bd (setDst o v nt s.tm) fun tm' => passGo Γ big ops ms nt c0 os (i + 1) { s with tm := tm', h := h2, pend := rest m s.pend, hs := i :: s.hs, vs := s.h :: s.vs }
           | .p ch h2 => passGo Γ big ops ms nt c0 os (i + 1) { s with dd := some (i, ch, h2) })

/-- what is read is the same in each heap in which it may be read -/
def chkV (Γ : Env) (ms : T Nat) (tr : T AV) (i mi : Nat) (o : Oper) (v : AV) : List Nat → List H → Bool
  | hs, h :: vs =>
    match (match noneB mi hs with
      | true => (match bd (opA Γ tr h o) valOf with | .ok v' => avEq v v' | .no _ => false)
      | false => true) with
    | false => false
    | true => match hs with
      | [] => true
      | p :: ps => match hasBit ((ms.get p).getD 0) i with
        | true => true
        | false => chkV Γ ms tr i mi o v ps vs
  | _, [] => false

def chkGo (Γ : Env) (ms : T Nat) (hs : List Nat) (vs : List H) : List (Nat × Oper × T AV × AV) → Bool
  | [] => true
  | (i, o, tr, v) :: rs => match chkV Γ ms tr i ((ms.get i).getD 0) o v hs vs with | true => chkGo Γ ms hs vs rs | false => false

inductive DR where
  | go (tm : T AV) (h : H)
  | pan (ch : List (AV × Bool)) (h : H)

/-- a region whose order is drawn -/
def drawA (Γ : Env) (big : AF → H → E BR) (ops : List Oper) (nt : Nat) (tm : T AV) (h : H) : E DR :=
  bd (og 198 (wfGo ops nt ops 0 .lf .lf .lf)) fun ms =>
  bd (passGo Γ big ops ms nt h.c ops 0 { tm, h := { h with c := h.c + ops.length }, pend := [], hs := [], vs := [], rds := [], dd := none }) fun s =>
  gd 199 (chkGo Γ ms s.hs.reverse (s.h :: s.vs).reverse s.rds) (match s.dd with
    | none => .ok (.go s.tm (promo (2 ^ ops.length - 1) h.c s.pend s.h))
    | some p => .ok (.pan p.2.1 p.2.2))

def resultsA (Γ : Env) (tm : T AV) (h : H) : List ResultVar → E (List AV)
  | [] => .ok []
  | .tmp t :: rs => bd (resultsA Γ tm h rs) fun vs => .ok ((match tm.get t with | some v => v | none => .tuple []) :: vs)
  | .cell a t :: rs => match tm.get a with
    | some (.ptr b o) => bd (loadA Γ h t b o) fun v => bd (resultsA Γ tm h rs) fun vs => .ok (v :: vs)
    | _ => .no 205

def getLoopA (h : H) (l : Nat) : E AB := match h.m.get l with | some (.loop s p f tm nt ps a b d) => .ok (.loop s p f tm nt ps a b d) | _ => .no 206

/-- a value goes back to the caller -/
def backA (fin : St) (v : AV) (dfr : Bool) (cs : List AF) (h : H) : E St :=
  match cs with
  | c :: cs' => match dfr with
    | false => bd (finishA c v) fun c' => .ok (.go c' cs' h)
    | true => .ok (.go (match c.mode with
      | .pan ((_, true) :: _) => { c with mode := .returning }
      | _ => c) cs' h)
  | [] => match dfr with | false => .ok fin | true => .no 207

def leaveR (l : Nat) (dfr : Bool) (cs : List AF) (h : H) (jump : Option Code) : E St :=
  match h.m.get l with
  | some (.loop _ _ fn tm nt ps a b d) =>
    let v := AV.bool (match jump with | none => true | some _ => false)
    let h' : H := { h with m := h.m.set l (.loop (match jump with | none => .ready | some _ => .done) jump fn tm nt ps a b d) }
    backA (.doneR v h') v dfr cs h'
  | _ => .no 209

def leaveA (f : AF) (cs : List AF) (h : H) (jump : Option Code) : E St :=
  match f.rnd with
  | none => match jump with
    | none => .ok (.go { f with mode := .returning } cs h)
    | some .ret => .ok (.go { f with mode := .returning } cs h)
    | _ => .no 208
  | some l => leaveR l f.dfr cs h jump

def newWord (h : H) (ws : List (List Nat)) : AV × H :=
  (.slice (newExact h (ws.map AV.str)).1 0 ws.length (.k ws.length), (newExact h (ws.map AV.str)).2)

/-- strings.Fields of what is ASCII -/
def isSp (b : Nat) : Bool := b.beq 32 || (Nat.ble 9 b && Nat.ble b 13)
def fieldsGo : List Nat → List Nat → List (List Nat) → List (List Nat)
  | [], cur, acc => (match cur with | [] => acc | _ => cur.reverse :: acc).reverse
  | b :: bs, cur, acc => match isSp b with
    | true => fieldsGo bs [] (match cur with | [] => acc | _ => cur.reverse :: acc)
    | false => fieldsGo bs (b :: cur) acc
def allAscii : List Nat → Bool
  | [] => true
  | b :: bs => match Nat.blt b 128 with | true => allAscii bs | false => false

def applyA (Γ : Env) (f : AF) (cs : List AF) (r : R) (h : H) : E St :=
  match r with
  | .val v h' => bd (finishA f v) fun f' => .ok (.go f' cs h')
  | .skip h' => bd (finishA f (.tuple [])) fun f' => .ok (.go f' cs h')
  | .enter g args h' => bd (enterA Γ g args false) fun c => .ok (.go c (f :: cs) h')
  | .fields s h' => gd 210 (allAscii s && Nat.blt s.length 4294967281)
    (bd (finishA f (newWord h' (fieldsGo s [] [])).1) fun f' => .ok (.go f' cs (newWord h' (fieldsGo s [] [])).2))
  | .defer g args => match f.rnd with
    | none => bd (finishA { f with defers := .fn g args :: f.defers } (.tuple [])) fun f' => .ok (.go f' cs h)
    | some _ => .no 214
  | .recov => match f.dfr, f.rnd, cs with
    | true, none, c :: cs' => match c.mode with
      | .pan ((v, false) :: older) => bd (finishA f v) fun f' => .ok (.go f' ({ c with mode := .pan ((v, true) :: older) } :: cs') h)
      | _ => bd (finishA f .nilIface) fun f' => .ok (.go f' cs h)
    | _, _, _ => .no 211
  | .panic v => .ok (.go (raiseA f [(v, false)]) cs h)
  | .yield l args => bd (roundA l args h) fun c => .ok (.go c (f :: cs) h)

def execA (Γ : Env) (big : AF → H → E BR) (f : AF) (cs : List AF) (h : H) : E St :=
  match f.todo with
  | [] => leaveA f cs h none
  | .ops all (o :: rem) :: k =>
    bd (wantedA o all f.tm) fun w => match w with
      | true => bd (opA Γ f.tm h o) fun r => applyA Γ f cs r h
      | false => bd (finishA f (.tuple [])) fun f' => .ok (.go f' cs h)
  | .ops _ [] :: k | .inBlock _ :: k | .inScope _ :: k => .ok (.go { f with todo := k } cs h)
  | .inLoop body :: k => .ok (.go { f with todo := .code body :: .inLoop body :: k } cs h)
  | .code c :: k => match c with
    | .seq a b => .ok (.go { f with todo := .code a :: .code b :: k } cs h)
    | .region _ ops false => .ok (.go { f with todo := .ops ops.toList ops.toList :: k } cs h)
    | .region _ ops true => bd (drawA Γ big ops.toList f.nt f.tm h) fun r => match r with
      | .go tm' h' => .ok (.go { f with tm := tm', todo := k } cs h')
      | .pan ch h' => match f.defers with
        | [] => (match cs with
          | c :: cs' => .ok (.go (raiseA c ch) cs' h')
          | [] => .ok (.dead ch h'))
        | _ => .no 214
    | .cond c thn els => bd (ev Γ f.tm c) fun v => match v with
      | .bool b => .ok (.go { f with todo := .code (match b with | true => thn | false => els) :: k } cs h)
      | _ => .no 215
    | .skip | .label _ => .ok (.go { f with todo := k } cs h)
    | .block id body => .ok (.go { f with todo := .code body :: .inBlock id :: k } cs h)
    | .loop body => .ok (.go { f with todo := .code body :: .inLoop body :: k } cs h)
    | .scope body => .ok (.go { f with todo := .code body :: .inScope body :: k } cs h)
    | .exit id => match popExit id k with
      | some k' => .ok (.go { f with todo := k' } cs h)
      | none => leaveA f cs h (some (.exit id))
    | .goto l => match gotoA l k with
      | some k' => .ok (.go { f with todo := k' } cs h)
      | none => leaveA f cs h (some (.goto l))
    | .ret => leaveA f cs h (some .ret)
    | .rangeFunc x params assign body =>
      bd (match f.rnd with
        | none => .ok (h.c, ({ h with m := h.m.set h.c (.defr true), c := h.c + 1 } : H), [AD.coll h.c])
        | some l => match h.m.get l with
          | some (.loop _ _ _ _ _ _ _ _ d) => .ok (d, h, [])
          | _ => .no 216) fun (d, h1, mark) =>
      let l := h1.c
      let h2 : H := { h1 with m := h1.m.set l (.loop .ready none f.fn f.tm f.nt params.toList assign body d), c := l + 1 }
      bd (ev Γ f.tm x) fun v => match v with
        | .func g first captured =>
          bd (callF Γ g (first ++ ([.yieldv l] ++ captured)) h2) fun r =>
            applyA Γ { f with todo := .inRF l :: k, defers := mark ++ f.defers } cs r h2
        | _ => .no 217
    | .refuse _ => .no 218
  | .beginRound :: k => match f.rnd with
    | some l => match h.m.get l with
      | some (.loop .ready p fn tm nt ps a b d) => .ok (.go { f with todo := k } cs { h with m := h.m.set l (.loop .busy p fn tm nt ps a b d) })
      | _ => .no 219
    | none => .no 220
  | .endRF l :: k => match h.m.get l with
    | some (.loop st p fn tm nt ps a b d) => match st with
      | .busy => .no 221
      | _ => .ok (.go { f with todo := (p.map AItem.code).toList ++ k } cs { h with m := h.m.set l (.loop .exhausted p fn tm nt ps a b d) })
    | _ => .no 222
  | .inRF _ :: _ => .no 223

def oneOf : List AV → AV
  | [v] => v
  | vs => .tuple vs

def unwindA (Γ : Env) (f : AF) (cs : List AF) (h : H) : E St :=
  match f.defers with
  | .coll b :: ds => match h.m.get b with
    | some (.defr true) => .ok (.go { f with defers := ds } cs { h with m := h.m.set b (.defr false) })
    | _ => .no 224
  | .fn g args :: ds => bd (callF Γ g args h) fun r => match r with
    | .enter g args h' => bd (enterA Γ g args true) fun c => .ok (.go c ({ f with defers := ds } :: cs) h')
    | _ => .no 225
  | [] => match f.mode with
    | .run => .no 226
    | .pan ch => match cs with
      | c :: cs' => .ok (.go (raiseA c ch) cs' h)
      | [] => .ok (.dead ch h)
    | .returning => match f.rnd with
      | some _ => .no 227
      | none => bd (og 228 (Γ.ft.get f.fn)) fun fn => bd (resultsA Γ f.tm h fn.results.toList) fun vs =>
        backA (.done f.fn (oneOf vs) h) (oneOf vs) f.dfr cs h

def stepA (Γ : Env) (big : AF → H → E BR) (f : AF) (cs : List AF) (h : H) : E St :=
  match f.mode with
  | .run => execA Γ big f cs h
  | _ => unwindA Γ f cs h

def runA (Γ : Env) : Nat → AF → List AF → H → E BR
  | 0, _, _, _ => .no 230
  | n + 1, f, cs, h =>
    match stepA Γ (fun c h' => runA Γ n c [] h') f cs h with
    | .ok (.go f' cs' h') => runA Γ n f' cs' h'
    | .ok (.done fn v h') => .ok (.ret fn v h')
    | .ok (.doneR v h') => .ok (.retR v h')
    | .ok (.dead ch h') => .ok (.pan ch h')
    | .no k => .no k

def runCallA (Γ : Env) (n : Nat) (g : FuncId) (args : List AV) (h : H) : E BR := bd (enterA Γ g args false) fun c => runA Γ n c [] h

end Go.Vex
