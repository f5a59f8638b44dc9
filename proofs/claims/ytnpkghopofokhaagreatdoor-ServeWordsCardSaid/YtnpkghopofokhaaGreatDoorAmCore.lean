/- A part of the abstract machine, or of a proof over it. -/
import GoSem.Claims
namespace Go.Am
noncomputable section

/-- A binary trie keyed by numbers. -/
inductive T (α : Type) where
  | lf
  | nd (l : T α) (x : Option α) (r : T α)

namespace T
variable {α β : Type}
def force (t : T α) (k : T α → β) : β := T.rec (motive := fun _ => β) (k .lf) (fun l x r _ _ => k (.nd l x r)) t
def get (t : T α) : Nat → Option α :=
  T.rec (motive := fun _ => Nat → Option α) (fun _ => none)
    (fun _ x _ gl gr k => Nat.rec (motive := fun _ => Option α) x
      (fun k' _ => Nat.rec (motive := fun _ => Option α) (gl (Nat.div k' (nat_lit 2))) (fun _ _ => gr (Nat.div k' (nat_lit 2))) (Nat.mod k' (nat_lit 2))) k) t
/-- The trie with one entry, and on with it. -/
def oneK (f : Nat) : Nat → Option α → (T α → β) → β :=
  Nat.rec (motive := fun _ => Nat → Option α → (T α → β) → β) (fun _ _ c => c .lf)
    (fun _ ih k v c => Nat.rec (motive := fun _ => β) (c (.nd .lf v .lf))
      (fun k' _ => Nat.rec (motive := fun _ => β) (ih (Nat.div k' (nat_lit 2)) v fun l => c (.nd l none .lf))
        (fun _ _ => ih (Nat.div k' (nat_lit 2)) v fun r => c (.nd .lf none r)) (Nat.mod k' (nat_lit 2))) k) f
/-- An entry put, and on. -/
def putK (t : T α) : Nat → Option α → (T α → β) → β :=
  T.rec (motive := fun _ => Nat → Option α → (T α → β) → β) (fun k v c => oneK (Nat.succ k) k v c)
    (fun l x r pl pr k v c => Nat.rec (motive := fun _ => β) (c (.nd l v r))
      (fun k' _ => Nat.rec (motive := fun _ => β) (pl (Nat.div k' (nat_lit 2)) v fun l' => c (.nd l' x r))
        (fun _ _ => pr (Nat.div k' (nat_lit 2)) v fun r' => c (.nd l x r')) (Nat.mod k' (nat_lit 2))) k) t
/-- n values from place o on. -/
def range (t : T α) (o : Nat) : Nat → Option (List α)
  | 0 => some []
  | n + 1 => match t.get o with
    | none => none
    | some v => match t.range (Nat.succ o) n with
      | none => none
      | some l => some (v :: l)
/-- values put from place o on. -/
def putsK (t : T α) (o : Nat) : List α → (T α → β) → β
  | [], c => c t
  | v :: vs, c => t.putK o (some v) fun t => t.putsK (Nat.succ o) vs c
end T

inductive V where
  | bool (b : Bool)
  | int (k : IntKind) (n : Int)
  | str (s : List Nat)
  | nilp
  | ptr (l o : Nat)
  | nils
  | sl (l o n : Nat) (c : Option Nat)
  | sl0
  | nilm
  | map (l : Nat)
  | func (fn : Fn) (first cap : List V)
  | nilf
  | iface (t : Nat) (v : V)
  | nili
  | agg (vs : List V)
  | tup (vs : List V)
  /-- some value of one cell -/
  | any
  /-- some value -/
  | top
  deriving Inhabited

/-- Which cells of a block no store may reach: none; those ahead of z; or at most what lies behind its end. -/
inductive Fz where
  | no
  | pre (z : Nat)
  | tail

inductive Obj where
  | cells (vs : T V) (n : Nat) (elem : Nat) (frz : Fz) (opn : Bool)
  /-- cells that are only read -/
  | glob (vs : T V) (elem : Nat)
  | mapo (es : List (V × V × Nat)) (clock : Nat)
  | strI (s : List Nat) (pos : Nat)
  | mapI (m : Option Nat) (since : Nat) (seen : List Nat) (last : Nat)
  | loop (env : T V) (params : List Nat) (assign body : Code) (st : LoopState) (pend : Option Code) (defers : Nat)
  | defd (opn : Bool)

structure H where
  o : T Obj
  nx : Nat

abbrev R := Option (V × H)
abbrev Cal := Fn → List V → H → R

structure Pg where
  ty : T TypeInfo
  fn : T Func
  /-- struct types whose values may be compared. -/
  cmp : List Nat
  /-- (e, off, u): in a block of one e there lies, at off, a variable of type u. -/
  lies : List (Nat × Nat × Nat)

def undef : V := .tup []

def forceNat {β : Type} (n : Nat) (k : Nat → β) : β := Nat.rec (motive := fun _ => β) (k (nat_lit 0)) (fun m _ => k (Nat.succ m)) n
def forceInt {β : Type} (n : Int) (k : Int → β) : β := match n with
  | .ofNat m => forceNat m fun m => k (.ofNat m)
  | .negSucc m => forceNat m fun m => k (.negSucc m)
def forceB {β : Type} : List Nat → (List Nat → β) → β
  | [], k => k []
  | a :: t, k => forceNat a fun a => forceB t fun t => k (a :: t)
def forceL {α β : Type} : List α → (List α → β) → β
  | [], k => k []
  | a :: t, k => forceL t fun t => k (a :: t)

def H.get (h : H) (l : Nat) : Option Obj := h.o.get l
def H.set {β : Type} (h : H) (l : Nat) (x : Obj) (k : H → β) : β := match h with
  | ⟨o, nx⟩ => o.putK l (some x) fun o => k ⟨o, nx⟩
def H.new {β : Type} (h : H) (x : Obj) (k : Nat → H → β) : β := match h with
  | ⟨o, nx⟩ => o.putK nx (some x) fun o => forceNat (Nat.succ nx) fun nx' => k nx ⟨o, nx'⟩
/-- n ids are laid aside. -/
def H.bump {β : Type} (h : H) (n : Nat) (k : Nat → H → β) : β := match h with
  | ⟨o, nx⟩ => forceNat (Nat.add nx n) fun nx' => k nx ⟨o, nx'⟩
def H.del {β : Type} (h : H) (l : Nat) (k : H → β) : β := match h with
  | ⟨o, nx⟩ => o.putK l none fun o => k ⟨o, nx⟩

def und (p : Pg) (t : Nat) : Option TypeDesc := match p.ty.get t with
  | none => none
  | some i => match i.desc with
    | .named _ u => (p.ty.get u).map (·.desc)
    | d => some d
def szOf (p : Pg) (t : Nat) : Option Nat := (p.ty.get t).map (·.size)
def isAg (p : Pg) (t : Nat) : Option Bool := match und p t with
  | some (.struct _) => some true
  | some (.array _ _) => some true
  | some _ => some false
  | none => none

/-- A constant of the program as a value. -/
def absC : Nat → Value → V
  | 0, _ => .top
  | f + 1, v => match v with
    | .bool b => .bool b
    | .int k n => .int k n
    | .string s => forceB (s.data.toList.map UInt8.toNat) .str
    | .pointer none => .nilp
    | .slice none n c => match n, c with
      | 0, 0 => .nils
      | _, _ => .any
    | .map none => .nilm
    | .nilFunc => .nilf
    | .nilIface => .nili
    | .func fn a b => match fn with
      | .func f => match a.toList, b.toList with
        | [], [] => .func (.func f) [] []
        | _, _ => .any
      | _ => .any
    | .iface t v => .iface t (absC f v)
    | .agg cs => forceL (cs.toList.map (absC f)) .agg
    | .tuple cs => forceL (cs.toList.map (absC f)) .tup
    | _ => .any
def zeroOf (p : Pg) (t : Nat) : Option V := match p.ty.get t with
  | none => none
  | some i => i.zero.map (absC 20)

def V.cells : V → List V
  | .agg cs => cs
  | v => [v]

def opd (env : T V) : Operand → V
  | .tmp t => match env.get t with | some v => v | none => undef
  | .const v => absC 20 v
  | .global g => .ptr g 0
  | .func f => .func (.func f) [] []
def getK {β : Type} (o : Option V) (k : V → β) : β := Option.rec (motive := fun _ => β) (k undef) k o
/-- An operand's value, and on with it. -/
def opk {β : Type} (env : T V) (x : Operand) : (V → β) → β :=
  Operand.rec (motive := fun _ => (V → β) → β) (fun t => getK (env.get t)) (fun v k => k (absC 20 v)) (fun g k => k (.ptr g 0)) (fun f k => k (.func (.func f) [] [])) x
def opks {β : Type} (env : T V) : List Operand → (List V → β) → β
  | [], k => k []
  | x :: xs, k => opk env x fun v => opks env xs fun vs => k (v :: vs)

def takeL {α : Type} : Nat → List α → List α
  | 0, _ => []
  | n + 1, l => match l with | [] => [] | a :: t => (takeL n t).casesOn [a] fun b s => a :: b :: s
def dropL {α : Type} : Nat → List α → List α
  | 0, l => l
  | n + 1, l => match l with | [] => [] | _ :: t => dropL n t
def nth {α : Type} : List α → Nat → Option α
  | [], _ => none
  | a :: _, 0 => some a
  | _ :: t, n + 1 => nth t n
def len {α : Type} : List α → Nat
  | [] => 0
  | _ :: t => Nat.succ (len t)

def part (p : Pg) (t : Nat) (cs : List V) (off : Nat) : Option V :=
  match isAg p t with
  | some true => match szOf p t with
    | none => none
    | some n => match Nat.ble (Nat.add off n) (len cs) with
      | true => forceL (takeL n (dropL off cs)) fun l => some (.agg l)
      | false => none
  | some false => nth cs off
  | none => none

def cellsOf : Option Obj → Option (T V)
  | some (.cells vs _ _ _ _) => some vs
  | some (.glob vs _) => some vs
  | _ => none
def rangeOf (o n : Nat) : Option (T V) → Option (List V)
  | some vs => vs.range o n
  | none => none
def getOf (o : Nat) : Option (T V) → Option V
  | some vs => vs.get o
  | none => none
def aggO : Option (List V) → Option V
  | some l => some (.agg l)
  | none => none
/-- n cells at a place. -/
def loadN (h : H) (l o n : Nat) : Option (List V) := rangeOf o n (cellsOf (h.get l))
def loadV (p : Pg) (t : Nat) (h : H) (l o : Nat) : Option V :=
  match isAg p t with
  | some true => match szOf p t with
    | none => none
    | some n => aggO (loadN h l o n)
  | some false => getOf o (cellsOf (h.get l))
  | none => none
def plainV : V → Bool
  | .agg _ => false
  | .tup _ => false
  | .top => false
  | _ => true
def plains : List V → Bool
  | [] => true
  | v :: vs => match plainV v with
    | true => plains vs
    | false => false
def fzOk (o : Nat) : Fz → Bool
  | .no => true
  | .pre z => Nat.ble z o
  | .tail => true
/-- cells stored at a place that lies, and that no string shares. -/
def storeN {β : Type} (h : H) (l o : Nat) (cs : List V) (k : H → Option β) : Option β := match cs with
  | [] => k h
  | _ => match h.get l with
    | some (.cells vs n elem frz opn) =>
      match Nat.ble (Nat.add o (len cs)) n && fzOk o frz && plains cs with
      | false => none
      | true => vs.putsK o cs fun vs => h.set l (.cells vs n elem frz opn) k
    | _ => none
def newRow {β : Type} (h : H) (elem : Nat) (cs : List V) (opn : Bool) (frz : Fz) (k : Nat → H → β) : β :=
  T.lf.putsK (nat_lit 0) cs fun vs => forceNat (len cs) fun n => h.new (.cells vs n elem frz opn) k

def fill (cells : List V) (off : Nat) (vs : List V) : List V := match off, cells, vs with
  | 0, _ :: cs, v :: vs => v :: fill cs 0 vs
  | 0, cs, [] => cs
  | 0, [], _ => []
  | n + 1, c :: cs, vs => c :: fill cs n vs
  | _ + 1, [], _ => []
def notTop {β : Type} (no yes : β) : V → β
  | .top => no
  | _ => yes
def fillAll (place : Nat → Option (Nat × Nat)) (cells : List V) : List (Nat × V) → Option (List V)
  | [] => some cells
  | (i, v) :: rest => match place i with
    | none => none
    | some (off, size) => match notTop false (Nat.beq (len v.cells) size && Nat.ble (Nat.add off size) (len cells)) v with
      | false => none
      | true => forceL (fill cells off v.cells) fun cells => fillAll place cells rest

def lim : IntKind → Nat
  | .i8 => 128
  | .i16 => 32768
  | .i32 => 2147483648
  | .i64 => 9223372036854775808
  | .u8 => 256
  | .u16 => 65536
  | .u32 => 4294967296
  | .u64 => 18446744073709551616
def wrapS (k : IntKind) (n : Int) : Int := match n with
  | .ofNat m => match Nat.blt m (lim k) with
    | true => .ofNat m
    | false => k.wrap (.ofNat m)
  | .negSucc m => k.wrap (.negSucc m)
def wrapI {β : Type} (k : IntKind) (n : Int) (f : V → β) : β := forceInt (wrapS k n) fun n => f (.int k n)

def bytesEq : List Nat → List Nat → Bool
  | [], [] => true
  | a :: x, b :: y => match Nat.beq a b with | true => bytesEq x y | false => false
  | _, _ => false
def bytesLt : List Nat → List Nat → Bool
  | _, [] => false
  | [], _ :: _ => true
  | a :: x, b :: y => match Nat.blt a b with
    | true => true
    | false => match Nat.beq a b with | true => bytesLt x y | false => false
def appB : List Nat → List Nat → List Nat
  | [], y => y
  | a :: x, y => (appB x y).casesOn [a] fun b s => a :: b :: s

def clean (h : H) (l : Nat) : Bool := match h.get l with
  | some (.cells _ n _ .no _) => match n with | 0 => false | _ + 1 => true
  | _ => false

def intEq (a b : Int) : Bool := match a, b with
  | .ofNat a, .ofNat b => Nat.beq a b
  | .negSucc a, .negSucc b => Nat.beq a b
  | _, _ => false
def intLt (a b : Int) : Bool := match a, b with
  | .ofNat a, .ofNat b => Nat.blt a b
  | .negSucc a, .negSucc b => Nat.blt b a
  | .negSucc _, .ofNat _ => true
  | .ofNat _, .negSucc _ => false

def kindEq (a b : IntKind) : Bool := match a, b with
  | .i8, .i8 | .i16, .i16 | .i32, .i32 | .i64, .i64 | .u8, .u8 | .u16, .u16 | .u32, .u32 | .u64, .u64 => true
  | _, _ => false

def fnEq : Fn → Fn → Bool
  | .func a, .func b => Nat.beq a b
  | .yield a, .yield b => Nat.beq a b
  | _, _ => false
def capEq : Option Nat → Option Nat → Bool
  | none, none => true
  | some a, some b => Nat.beq a b
  | _, _ => false
def beqL (f : V → V → Bool) : List V → List V → Bool
  | [], [] => true
  | a :: x, b :: y => match f a b with
    | true => beqL f x y
    | false => false
  | _, _ => false
/-- Does a value say no more than another one? -/
def beqV : Nat → V → V → Bool
  | 0, _, _ => false
  | f + 1, a, b => match a, b with
    | .bool a, .bool b => a == b
    | .int k a, .int j b => kindEq k j && intEq a b
    | .str a, .str b => bytesEq a b
    | .nilp, .nilp => true
    | .ptr a i, .ptr b j => Nat.beq a b && Nat.beq i j
    | .nils, .nils => true
    | .sl a i n c, .sl b j m d => Nat.beq a b && Nat.beq i j && Nat.beq n m && capEq c d
    | .sl0, .sl0 => true
    | .nilm, .nilm => true
    | .map a, .map b => Nat.beq a b
    | .func x a c, .func y b d => fnEq x y && beqL (beqV f) a b && beqL (beqV f) c d
    | .nilf, .nilf => true
    | .iface t a, .iface u b => Nat.beq t u && beqV f a b
    | .nili, .nili => true
    | .agg a, .agg b => beqL (beqV f) a b
    | .tup a, .tup b => beqL (beqV f) a b
    | .any, b => plainV b
    | .top, _ => true
    | _, _ => false

def memN (t : Nat) : List Nat → Bool
  | [] => false
  | a :: l => match Nat.beq a t with | true => true | false => memN t l
def memLies (e o u : Nat) : List (Nat × Nat × Nat) → Bool
  | [] => false
  | (a, b, c) :: l => match Nat.beq a e && Nat.beq b o && Nat.beq c u with | true => true | false => memLies e o u l

/-- Are two structs equal, field by field? -/
def eqFields (p : Pg) (eq : Nat → V → V → Option Bool) (xs ys : List V) : List Field → Option Bool
  | [] => some true
  | f :: fs => match part p f.type xs f.offset, part p f.type ys f.offset with
    | some a, some b => match eq f.type a b with
      | some true => eqFields p eq xs ys fs
      | r => r
    | _, _ => none

/-- Are two values of a type equal? -/
def eqV (p : Pg) (h : H) : Nat → Nat → V → V → Option Bool
  | 0, _, _, _ => none
  | d + 1, t, x, y => match und p t with
    | none => none
    | some u => match u, x, y with
      | .bool, .bool a, .bool b => some (a == b)
      | .int _, .int k a, .int k' b => match kindEq k k' with | true => some (intEq a b) | false => none
      | .string, .str a, .str b => some (bytesEq a b)
      | .pointer _, .nilp, .nilp => some true
      | .pointer _, .nilp, .ptr _ _ | .pointer _, .ptr _ _, .nilp => some false
      | .pointer e, .ptr a i, .ptr b j => match szOf p e with
        | some (_ + 1) => match Nat.beq a b with
          | true => some (Nat.beq i j)
          | false => match clean h a && clean h b with | true => some false | false => none
        | _ => none
      | .interface _, .nili, .nili => some true
      | .interface _, .nili, .iface _ _ | .interface _, .iface _ _, .nili => some false
      | .interface _, .iface tx vx, .iface ty vy => match Nat.beq tx ty with
        | false => some false
        | true => match p.ty.get tx with
          | some i => match i.comparable with
            | true => eqV p h d tx vx vy
            | false => none
          | none => none
      | .struct fields, .agg xs, .agg ys => match memN t p.cmp with
        | false => none
        | true => eqFields p (eqV p h d) xs ys fields.toList
      | .slice _, .nils, .nils => some true
      | .slice _, .nils, .sl .. | .slice _, .sl .., .nils | .slice _, .nils, .sl0 | .slice _, .sl0, .nils => some false
      | .map _ _, .nilm, .nilm => some true
      | .map _ _, .nilm, .map _ | .map _ _, .map _, .nilm => some false
      | .func _ _ _, .nilf, .nilf => some true
      | .func _ _ _, .nilf, .func _ _ _ | .func _ _ _, .func _ _ _, .nilf => some false
      | _, _, _ => none

def intBin (op : BinOp) (k : IntKind) (a b : Int) : Option V := match op with
  | .add => wrapI k (a + b) some
  | .sub => wrapI k (a - b) some
  | .mul => wrapI k (a * b) some
  | .quo => match b with | .ofNat 0 => none | b => wrapI k (a.tdiv b) some
  | .rem => match b with | .ofNat 0 => none | b => forceInt (a.tmod b) fun n => some (.int k n)
  | .and => match a, b with
    | .ofNat x, .ofNat y => wrapI k (.ofNat (Nat.land x y)) some
    | _, _ => wrapI k ((BitVec.ofInt k.bits a &&& BitVec.ofInt k.bits b).toNat : Int) some
  | .or => match a, b with
    | .ofNat x, .ofNat y => wrapI k (.ofNat (Nat.lor x y)) some
    | _, _ => wrapI k ((BitVec.ofInt k.bits a ||| BitVec.ofInt k.bits b).toNat : Int) some
  | .xor => match a, b with
    | .ofNat x, .ofNat y => wrapI k (.ofNat (Nat.xor x y)) some
    | _, _ => wrapI k ((BitVec.ofInt k.bits a ^^^ BitVec.ofInt k.bits b).toNat : Int) some
  | .andNot => wrapI k ((BitVec.ofInt k.bits a &&& ~~~(BitVec.ofInt k.bits b)).toNat : Int) some
  | .eql => some (.bool (intEq a b))
  | .neq => some (.bool (!intEq a b))
  | .lss => some (.bool (intLt a b))
  | .leq => some (.bool (!intLt b a))
  | .gtr => some (.bool (intLt b a))
  | .geq => some (.bool (!intLt a b))
  | _ => none

def strBin (op : BinOp) (a b : List Nat) : Option V := match op with
  | .add => match Nat.ble (len a + len b) 9223372036854775807 with
    | true => forceL (appB a b) fun l => some (.str l)
    | false => none
  | .eql => some (.bool (bytesEq a b))
  | .neq => some (.bool (!bytesEq a b))
  | .lss => some (.bool (bytesLt a b))
  | .leq => some (.bool (bytesLt a b || bytesEq a b))
  | .gtr => some (.bool (!(bytesLt a b || bytesEq a b)))
  | .geq => some (.bool (!bytesLt a b))
  | _ => none

def shiftV (op : BinOp) (k : IntKind) (a b : Int) : Option V := match b with
  | .negSucc _ => none
  | .ofNat y => match op with
    | .shl => wrapI k (a * 2 ^ (min y k.bits)) some
    | .shr => forceInt (a.fdiv (2 ^ (min y k.bits))) fun n => some (.int k n)
    | _ => none

def binA (p : Pg) (h : H) (op : BinOp) (t : Nat) (x y : V) : Option V := match op, x, y with
  | .shl, .int k a, .int _ b | .shr, .int k a, .int _ b => shiftV op k a b
  | op, .int k a, .int k' b => match kindEq k k' with | true => intBin op k a b | false => none
  | op, .str a, .str b => strBin op a b
  | .eql, x, y => match eqV p h 40 t x y with | some b => some (.bool b) | none => none
  | .neq, x, y => match eqV p h 40 t x y with | some b => some (.bool (!b)) | none => none
  | _, _, _ => none

/-- eqGuard: two nils of an interface type with methods: does the model refuse? -/
def litO : Operand → Bool
  | .const _ => true
  | _ => false
def flatO : Option TypeDesc → Bool
  | some (.interface _) | some (.struct _) | some (.array ..) => false
  | some _ => true
  | none => false
def flats (p : Pg) : List Field → Bool
  | [] => true
  | f :: fs => match flatO (und p f.type) with
    | true => flats p fs
    | false => false
def guardVV (p : Pg) (t : Nat) (x y : Operand) (a b : V) : Bool := match a, b with
  | .any, _ | _, .any | .top, _ | _, .top => false
  | .nili, .nili => match litO x || litO y with
    | true => true
    | false => match und p t with
      | some (.interface ms) => ms.isEmpty
      | _ => false
  | .agg _, .agg _ => match und p t with
    | some (.struct fs) => flats p fs.toList
    | _ => false
  | _, _ => true
def guardOk (p : Pg) (op : BinOp) (t : Nat) (x y : Operand) (a b : V) : Bool := match op with
  | .eql => guardVV p t x y a b
  | .neq => guardVV p t x y a b
  | _ => true

def unA (op : UnOp) (x : V) : Option V := match op, x with
  | .neg, .int k n => wrapI k (0 - n) some
  | .xor, .int k n => match intBin .xor k (if k.signed then -1 else k.max) n with | some v => some v | none => none
  | .not, .bool b => some (.bool (match b with | true => false | false => true))
  | _, _ => none

def validR (r : Nat) : Bool := Nat.blt r 0xD800 || (Nat.ble 0xE000 r && Nat.ble r 0x10FFFF)
def cpR : Int → Nat
  | .ofNat n => match validR n with
    | true => n
    | false => 0xFFFD
  | .negSucc _ => 0xFFFD
def encC (c : Nat) : List Nat := match Nat.blt c 0x80 with
  | true => [c]
  | false => match Nat.blt c 0x800 with
    | true => [0xC0 + c / 64, 0x80 + c % 64]
    | false => match Nat.blt c 0x10000 with
      | true => [0xE0 + c / 4096, 0x80 + c / 64 % 64, 0x80 + c % 64]
      | false => [0xF0 + c / 262144, 0x80 + c / 4096 % 64, 0x80 + c / 64 % 64, 0x80 + c % 64]
def encR (r : Int) : List Nat := encC (cpR r)
def isCont (b : Nat) : Bool := Nat.beq (b / 64) 2
def decR (s : List Nat) : Nat × Nat := match s with
  | [] => (0xFFFD, 1)
  | b0 :: s1 => match Nat.blt b0 0x80 with
    | true => (b0, 1)
    | false => match s1 with
      | [] => (0xFFFD, 1)
      | b1 :: s2 => match Nat.beq (b0 / 32) 6 && isCont b1 with
        | true => match Nat.ble 0x80 ((b0 % 32) * 64 + b1 % 64) with
          | true => ((b0 % 32) * 64 + b1 % 64, 2)
          | false => (0xFFFD, 1)
        | false => match s2 with
          | [] => (0xFFFD, 1)
          | b2 :: s3 => match Nat.beq (b0 / 16) 14 && isCont b1 && isCont b2 with
            | true =>
              let c := (b0 % 16) * 4096 + (b1 % 64) * 64 + b2 % 64
              match Nat.ble 0x800 c && validR c with
              | true => (c, 3)
              | false => (0xFFFD, 1)
            | false => match s3 with
              | [] => (0xFFFD, 1)
              | b3 :: _ => match Nat.beq (b0 / 8) 30 && isCont b1 && isCont b2 && isCont b3 with
                | true =>
                  let c := (b0 % 8) * 262144 + (b1 % 64) * 4096 + (b2 % 64) * 64 + b3 % 64
                  match Nat.ble 0x10000 c && validR c with
                  | true => (c, 4)
                  | false => (0xFFFD, 1)
                | false => (0xFFFD, 1)

def u8s : List Nat → List V
  | [] => []
  | b :: t => V.int .u8 (.ofNat b) :: u8s t
def byteV : V → Option Nat
  | .int .u8 (.ofNat b) => match Nat.blt b 256 with
    | true => some b
    | false => none
  | _ => none
def bytesV : List V → Option (List Nat)
  | [] => some []
  | v :: t => match byteV v, bytesV t with
    | some b, some l => some (b :: l)
    | _, _ => none

def convA (p : Pg) (src dst : Nat) (x : V) (h : H) : Option (V × H) := match und p src, und p dst, x with
  | some _, some (.int k), .int _ n => wrapI k n fun v => some (v, h)
  | some _, some .string, .int _ n => forceB (encR n) fun s => some (.str s, h)
  | some _, some .string, .str s => some (.str s, h)
  | some _, some (.slice e), .str s => match und p e with
    | some (.int .u8) => match szOf p e with
      | some 1 => newRow h e (u8s s) true .tail fun l h => forceNat (len s) fun n => some (.sl l 0 n none, h)
      | _ => none
    | _ => none
  | some (.pointer _), some .unsafePointer, .nilp => some (.nilp, h)
  | some (.pointer t), some .unsafePointer, .ptr l o => match szOf p t, h.get l with
    | some (_ + 1), some (.cells _ n _ _ _) => match Nat.blt o n with | true => some (.ptr l o, h) | false => none
    | _, _ => none
  | some .unsafePointer, some (.pointer _), .nilp => some (.nilp, h)
  | some .unsafePointer, some (.pointer u), .ptr l o => match h.get l with
    | some (.cells _ n e _ false) => match szOf p e, szOf p u with
      | some s, some _ => match Nat.beq s n && Nat.blt o n && memLies e o u p.lies with | true => some (.ptr l o, h) | false => none
      | _, _ => none
    | _ => none
  | some (.slice e), some .string, x => match und p e with
    | some (.int .u8) => match x with
      | .nils => some (.str [], h)
      | .sl0 => some (.str [], h)
      | .sl l o n _ => match loadN h l o n with
        | some cs => match bytesV cs with
          | some s => forceB s fun s => some (.str s, h)
          | none => none
        | none => none
      | _ => none
    | _ => none
  | _, _, _ => none

def natOf : V → Option Nat
  | .int _ (.ofNat n) => some n
  | _ => none
def bound (v : Option V) (d y : Nat) : Option Nat := match v with
  | none => some d
  | some v => match natOf v with
    | some n => match Nat.ble n y with | true => some n | false => none
    | none => none
/-- The bounds of a slice expression: low, high, max. -/
def boundsA (n c : Nat) (lo hi mx : Option V) : Option (Nat × Nat × Nat) := match mx, hi with
  | some _, none => none
  | mx, hi => match bound mx c c with
    | none => none
    | some m => match bound hi n m with
      | none => none
      | some hh => match bound lo 0 hh with
        | none => none
        | some ll => some (ll, hh, m)
def sliceE (l o size : Nat) : Option (Nat × Nat × Nat) → Option V
  | none => none
  | some (ll, hh, m) => match Nat.beq m ll with
    | true => forceNat (Nat.sub hh ll) fun k => forceNat (Nat.sub m ll) fun c => some (.sl l o k (some c))
    | false => forceNat (Nat.add o (Nat.mul ll size)) fun o => forceNat (Nat.sub hh ll) fun k => forceNat (Nat.sub m ll) fun c => some (.sl l o k (some c))
/-- A slice of one whose capacity is not known, but that it is kc at least. -/
def sliceO (l o size kc : Nat) : Option (Nat × Nat × Nat) → Option V
  | none => none
  | some (ll, hh, _) => match Nat.blt ll kc with
    | true => forceNat (Nat.add o (Nat.mul ll size)) fun o => forceNat (Nat.sub hh ll) fun k => some (.sl l o k none)
    | false => match Nat.beq hh ll with
      | true => some .sl0
      | false => none
def sliceStr (s : List Nat) : Option (Nat × Nat × Nat) → Option V
  | none => none
  | some (ll, hh, _) => forceL (takeL (Nat.sub hh ll) (dropL ll s)) fun s => some (.str s)
def someV : Option (Nat × Nat × Nat) → V → Option V
  | none, _ => none
  | some _, v => some v
def openK (e size o : Nat) : Option Obj → Option Nat
  | some (.cells _ kn e' _ true) => match Nat.beq e e' with
    | true => some (Nat.div (Nat.sub kn o) size)
    | false => none
  | _ => none
def sliceOpen (l o n size : Nat) (lo hi mx : Option V) : Option Nat → Option V
  | none => none
  | some kc => match mx with
    | none => sliceO l o size kc (boundsA n kc lo hi none)
    | some m => match size with
      | 0 => none
      | _ => sliceE l o size (boundsA n kc lo hi (some m))
def sliceS (size e : Nat) (x : V) (lo hi mx : Option V) (h : H) : Option V := match x with
  | .nils => someV (boundsA 0 0 lo hi mx) .nils
  | .sl l o n (some c) => sliceE l o size (boundsA n c lo hi mx)
  | .sl l o n none => match size with
    | 0 => none
    | _ => sliceOpen l o n size lo hi mx (openK e size o (h.get l))
  | .sl0 => match mx with
    | none => someV (boundsA 0 0 lo hi none) .sl0
    | some _ => none
  | _ => none
def sliceA (p : Pg) (t : Nat) (x : V) (lo hi mx : Option V) (h : H) : Option V := match und p t with
  | some .string => match x, mx with
    | .str s, none => forceNat (len s) fun n => sliceStr s (boundsA n n lo hi none)
    | _, _ => none
  | some (.array n e) => match x, szOf p e with
    | .ptr l o, some size => sliceE l o size (boundsA n n lo hi mx)
    | _, _ => none
  | some (.slice e) => match szOf p e with
    | some size => sliceS size e x lo hi mx h
    | none => none
  | _ => none

def idxAddr (p : Pg) (t : Nat) (x i : V) : Option V := match natOf i with
  | none => none
  | some i => match und p t, x with
    | some (.array n e), .ptr l o => match Nat.blt i n, szOf p e with
      | true, some s => forceNat (o + i * s) fun o => some (.ptr l o)
      | _, _ => none
    | some (.slice e), .sl l o n _ => match Nat.blt i n, szOf p e with
      | true, some s => forceNat (o + i * s) fun o => some (.ptr l o)
      | _, _ => none
    | _, _ => none

def indexA (p : Pg) (t : Nat) (x i : V) : Option V := match natOf i with
  | none => none
  | some i => match und p t, x with
    | some (.array n e), .agg cs => match Nat.blt i n, szOf p e with
      | true, some s => part p e cs (i * s)
      | _, _ => none
    | some .string, .str s => match nth s i with
      | some b => some (.int .u8 (.ofNat b))
      | none => none
    | _, _ => none

def fieldsOf (p : Pg) (t : Nat) (f : Nat) : Option Field := match und p t with
  | some (.struct fs) => nth fs.toList f
  | _ => none

def findK (p : Pg) (h : H) (kt : Nat) (k : V) : List (V × V × Nat) → Nat → Option (Option (Nat × V))
  | [], _ => some none
  | (k', v, _) :: es, i => match eqV p h 40 kt k k' with
    | some true => some (some (i, v))
    | some false => findK p h kt k es (Nat.succ i)
    | none => none
def modL {α : Type} (f : α → α) : List α → Nat → List α
  | [], _ => []
  | a :: t, 0 => f a :: t
  | a :: t, n + 1 => a :: modL f t n
def delL {α : Type} : List α → Nat → List α
  | [], _ => []
  | _ :: t, 0 => t
  | a :: t, n + 1 => a :: delL t n
def basicT : Option TypeDesc → Bool
  | some (.bool) | some (.int _) | some .string | some (.pointer _) => true
  | _ => false
def basics (p : Pg) : List Field → Bool
  | [] => true
  | f :: fs => match basicT (und p f.type) with
    | true => basics p fs
    | false => false
/-- May a value be a key of this type, without a look at what lies in interfaces? -/
def keyOk (p : Pg) (t : Nat) (k : V) : Bool := match und p t with
  | some (.struct fs) => match k with
    | .agg cs => match memN t p.cmp && basics p fs.toList with
      | true => Nat.beq (len cs) (len fs.toList)
      | false => false
    | _ => false
  | d => basicT d

def okV (v : V) (b : Bool) : Bool → V
  | true => .tup [v, .bool b]
  | false => v
def lookK (z : Option V) (ok : Bool) : Option (Nat × V) → Option V
  | some (_, v) => some (okV v true ok)
  | none => match z with
    | some z => some (okV z false ok)
    | none => none
def lookO (p : Pg) (kt et : Nat) (k : V) (ok : Bool) (h : H) : Option Obj → Option V
  | some (.mapo es _) => match findK p h kt k es 0 with
    | some o => lookK (zeroOf p et) ok o
    | none => none
  | _ => none
def lookA (p : Pg) (t : Nat) (x k : V) (ok : Bool) (h : H) : Option V := match und p t with
  | some (.map kt et) => match keyOk p kt k with
    | false => none
    | true => match x with
      | .nilm => lookK (zeroOf p et) ok none
      | .map l => lookO p kt et k ok h (h.get l)
      | _ => none
  | _ => none

def updA (p : Pg) (t : Nat) (m k v : V) (h : H) : Option H := match und p t with
  | some (.map kt _) => match keyOk p kt k, m with
    | true, .map l => match h.get l with
      | some (.mapo es clock) => match findK p h kt k es 0 with
        | some (some (i, _)) => match nth es i with
          | some (k', _, b) => match beqV 40 k k' with
            | true => forceL (modL (fun _ => (k, v, b)) es i) fun es => h.set l (.mapo es clock) some
            | false => none
          | none => none
        | some none => forceL (es ++ [(k, v, clock)]) fun es => forceNat (Nat.succ clock) fun c => h.set l (.mapo es c) some
        | none => none
      | _ => none
    | _, _ => none
  | _ => none

def rep {α : Type} (n : Nat) (l : List α) : List α := match n with
  | 0 => []
  | n + 1 => l ++ rep n l

/-- What is appended: cells, and how many elements. -/
def lenA : V → Option Nat
  | .nils => some 0
  | .sl0 => some 0
  | .sl _ _ n _ => some n
  | .str s => some (len s)
  | _ => none
def cellsA (size : Nat) (x : V) (n : Nat) (h : H) : Option (List V) := match x with
  | .nils => some []
  | .sl0 => some []
  | .sl l o _ _ => loadN h l o (n * size)
  | .str s => match Nat.beq size (nat_lit 1) with
    | true => some (u8s (takeL n s))
    | false => none
  | _ => none

def isIntD : TypeDesc → Bool
  | .int _ => true
  | _ => false
def growOk (bytes need : Nat) : Bool := Nat.ble need 1099511627776 && Nat.ble (Nat.mul (Nat.add (Nat.mul 2 need) 1000) bytes) 281474976710656
/-- How many elements are appended. -/
def cntA (bytes : Nat) (x : V) : Bool → Option Nat
  | true => match natOf x with
    | some m => match growOk bytes m with
      | true => some m
      | false => none
    | none => none
  | false => lenA x
def newA (size m : Nat) (z : V) (x : V) (h : H) : Bool → Option (List V)
  | true => some (rep m z.cells)
  | false => cellsA size x m h
/-- A row that grows: into new memory. -/
def growA (e bytes need : Nat) (cs : List V) (h : H) : R := match growOk bytes need with
  | true => newRow h e cs true .no fun l h => some (.sl l 0 need none, h)
  | false => none
/-- One whose capacity is not known: it goes on under a new id. -/
def moveA (e size bytes need m : Nat) (l o : Nat) (new : List V) (h : H) : Option Obj → R
  | some (.cells vs kn e' frz true) => match Nat.beq e e' && Nat.ble 1 size with
    | false => none
    | true => match Nat.ble (Nat.add o (Nat.mul need size)) kn with
      | true => storeN h l (Nat.add o (Nat.mul (Nat.sub need m) size)) new fun h => some (.sl l o need none, h)
      | false => match Nat.beq (Nat.add o (Nat.mul (Nat.sub need m) size)) kn && growOk bytes need && fzOk kn frz && plains new with
        | false => none
        | true => match o with
          | 0 => vs.putsK kn new fun vs => forceNat (Nat.add kn (len new)) fun kn => h.del l fun h => h.new (.cells vs kn e frz true) fun l h => some (.sl l 0 need none, h)
          | _ + 1 => match vs.range o (Nat.sub kn o), frz with
            | some old, .no => h.del l fun h => newRow h e (old ++ new) true .no fun l h => some (.sl l 0 need none, h)
            | _, _ => none
  | _ => none
def appS (e size bytes m : Nat) (s : V) (new : List V) (h : H) : R := match s with
  | .nils => match m with
    | 0 => some (.nils, h)
    | _ => growA e bytes m new h
  | .sl0 => match m with
    | 0 => some (.sl0, h)
    | _ => none
  | .sl l o n (some c) => forceNat (Nat.add n m) fun need => match Nat.ble need c with
    | true => storeN h l (Nat.add o (Nat.mul n size)) new fun h => some (.sl l o need (some c), h)
    | false => match loadN h l o (Nat.mul n size) with
      | none => none
      | some old => growA e bytes need (old ++ new) h
  | .sl l o n none => forceNat (Nat.add n m) fun need => moveA e size bytes need m l o new h (h.get l)
  | _ => none
def appI (e : Nat) (i : TypeInfo) (z : V) (s x : V) (h : H) (zeros : Bool) : R := match Nat.beq (len z.cells) i.size with
  | false => none
  | true => match cntA i.bytes x zeros with
    | none => none
    | some m => match newA i.size m z x h zeros with
      | none => none
      | some new => appS e i.size i.bytes m s new h
def appA (p : Pg) (st xt : Nat) (s x : V) (h : H) : R := match und p st with
  | some (.slice e) => match p.ty.get e, zeroOf p e, und p xt with
    | some i, some z, some u => appI e i z s x h (isIntD u)
    | _, _, _ => none
  | _ => none

def copyA (p : Pg) (dt : Nat) (d s : V) (h : H) : Option (V × H) := match und p dt with
  | some (.slice e) => match szOf p e, lenA d, lenA s with
    | some size, some dn, some sn => forceNat (Nat.min sn dn) fun n => match cellsA size s n h with
      | some cs => match d with
        | .sl l o _ _ => storeN h l o cs fun h => some (.int .i64 (.ofNat n), h)
        | .nils => some (.int .i64 (.ofNat n), h)
        | .sl0 => some (.int .i64 (.ofNat n), h)
        | _ => none
      | none => none
    | _, _, _ => none
  | _ => none

def lenB (p : Pg) (t : Nat) (x : V) (h : H) : Option (V × H) := match und p t with
  | some .string => match x with
    | .str s => forceNat (len s) fun n => some (.int .i64 (.ofNat n), h)
    | _ => none
  | some (.array n _) => some (.int .i64 (.ofNat n), h)
  | some (.pointer a) => match und p a with
    | some (.array n _) => some (.int .i64 (.ofNat n), h)
    | _ => none
  | some (.slice _) => match x with
    | .nils => some (.int .i64 (.ofNat (nat_lit 0)), h)
    | .sl0 => some (.int .i64 (.ofNat (nat_lit 0)), h)
    | .sl _ _ n _ => some (.int .i64 (.ofNat n), h)
    | _ => none
  | some (.map ..) => match x with
    | .nilm => some (.int .i64 (.ofNat (nat_lit 0)), h)
    | .map l => match h.get l with
      | some (.mapo es _) => forceNat (len es) fun n => some (.int .i64 (.ofNat n), h)
      | _ => none
    | _ => none
  | _ => none
def capB (p : Pg) (t : Nat) (x : V) (h : H) : Option (V × H) := match und p t with
  | some (.array n _) => some (.int .i64 (.ofNat n), h)
  | some (.slice _) => match x with
    | .nils => some (.int .i64 (.ofNat (nat_lit 0)), h)
    | .sl _ _ _ (some c) => some (.int .i64 (.ofNat c), h)
    | _ => none
  | _ => none
def clearB (p : Pg) (t : Nat) (x : V) (h : H) : Option (V × H) := match und p t with
  | none => none
  | some u => match x with
    | .nils => some (.tup [], h)
    | .sl0 => some (.tup [], h)
    | .nilm => some (.tup [], h)
    | .sl l o n _ => match u with
      | .slice e => match zeroOf p e with
        | some z => storeN h l o (rep n z.cells) fun h => some (.tup [], h)
        | none => none
      | _ => none
    | .map l => match h.get l with
      | some (.mapo _ clock) => h.set l (.mapo [] clock) fun h => some (.tup [], h)
      | _ => none
    | _ => none
def delK (h : H) (l : Nat) (es : List (V × V × Nat)) (clock : Nat) : Option (Option (Nat × V)) → Option (V × H)
  | some (some (i, _)) => forceL (delL es i) fun es => h.set l (.mapo es clock) fun h => some (.tup [], h)
  | some none => some (.tup [], h)
  | none => none
def delB (p : Pg) (t : Nat) (m k : V) (h : H) : Option (V × H) := match und p t with
  | some (.map kt _) => match keyOk p kt k with
    | true => match m with
      | .nilm => some (.tup [], h)
      | .map l => match h.get l with
        | some (.mapo es clock) => delK h l es clock (findK p h kt k es 0)
        | _ => none
      | _ => none
    | false => none
  | _ => none
def minB (h : H) : V → V → Option (V × H)
  | .int k a, .int _ b => some (.int k (match intLt b a with | true => b | false => a), h)
  | _, _ => none
def maxB (h : H) : V → V → Option (V × H)
  | .int k a, .int _ b => some (.int k (match intLt a b with | true => b | false => a), h)
  | _, _ => none
def ssdB (h : H) : V → Option (V × H)
  | .nils => some (.nilp, h)
  | .sl l o n c => match c with
    | some 0 => none
    | some (_ + 1) => some (.ptr l o, h)
    | none => match n with
      | 0 => none
      | _ + 1 => match h.get l with
        | some (.cells _ kn _ _ _) => match Nat.blt o kn with
          | true => some (.ptr l o, h)
          | false => none
        | _ => none
  | _ => none
def fzTo : Fz → Option Nat
  | .no => some 0
  | .pre z => some z
  | .tail => none
def strK (h : H) (l : Nat) (vs : T V) (kn e : Nat) (opn : Bool) (o n z : Nat) : Option (List V) → Option (V × H)
  | some cs => match bytesV cs with
    | some s => forceB s fun s => forceNat (Nat.max z (Nat.add o n)) fun z => h.set l (.cells vs kn e (.pre z) opn) fun h => some (.str s, h)
    | none => none
  | none => none
def ustrB (p : Pg) (t : Nat) (h : H) : V → V → Option (V × H)
  | .nilp, .int _ (.ofNat 0) => some (.str [], h)
  | .ptr l o, .int _ (.ofNat (n + 1)) => match und p t with
    | some (.pointer e) => match h.get l with
      | some (.cells vs kn e' frz opn) => match Nat.beq e e' && Nat.ble (o + (n + 1)) kn && Nat.ble (n + 1) 9223372036854775807, szOf p e, fzTo frz with
        | true, some 1, some z => strK h l vs kn e' opn o (n + 1) z (vs.range o (n + 1))
        | _, _, _ => none
      | _ => none
    | _ => none
  | _, _ => none
def builtA (p : Pg) (b : Builtin) (ats : List Nat) (args : List V) (h : H) : Option (V × H) := match ats with
  | [] => none
  | t :: ats => match args with
    | [] => none
    | x :: args => match args with
      | [] => match b with
        | .len => lenB p t x h
        | .cap => capB p t x h
        | .clear => clearB p t x h
        | .unsafeSliceData => ssdB h x
        | _ => none
      | y :: args => match args with
        | [] => match b with
          | .append => match ats with
            | xt :: _ => appA p t xt x y h
            | [] => none
          | .copy => copyA p t x y h
          | .delete => delB p t x y h
          | .min => minB h x y
          | .max => maxB h x y
          | .unsafeString => ustrB p t h x y
          | _ => none
        | _ => none

def loadP (p : Pg) (t : Nat) (a : V) (h : H) : Option V := match a with
  | .ptr l o => loadV p t h l o
  | _ => none
def storeP (p : Pg) (t : Nat) (a x : V) (h : H) : Option H := match a with
  | .ptr l o => match szOf p t with
    | some s => match notTop false (Nat.beq (len x.cells) s) x with
      | true => storeN h l o x.cells some
      | false => none
    | none => none
  | _ => none


def exV (v : Option V) (h : H) : R := match v with | some v => some (v, h) | none => none
def exH (h : Option H) : R := match h with | some h => some (undef, h) | none => none

def nextA (x : V) (isStr : Bool) (h : H) : R := match x with
  | .ptr l 0 => match h.get l, isStr with
    | some (.strI s pos), true => match s with
      | [] => some (.tup [.bool false], h)
      | _ => match decR s with
        | (c, w) => forceNat c fun c => forceL (dropL w s) fun s' => forceNat (pos + w) fun pos' =>
          h.set l (.strI s' pos') fun h => some (.tup [.bool true, .int .i64 (.ofNat pos), .int .i32 (.ofNat c)], h)
    | some (.mapI none _ _ _), false => some (.tup [.bool false], h)
    | some (.mapI (some m) since seen last), false => match h.get m with
      | some (.mapo es clock) => match es with
        | [] => some (.tup [.bool false], h)
        | [(k, v, b)] => match seen with
          | [] => match Nat.blt b since with
            | true => h.set l (.mapI (some m) since [b] clock) fun h => some (.tup [.bool true, k, v], h)
            | false => none
          | [b'] => match Nat.beq b b' && Nat.blt b last with
            | true => some (.tup [.bool false], h)
            | false => none
          | _ => none
        | _ => none
      | _ => none
    | _, _ => none
  | _ => none

def dstOf (ops : List Oper) (j : Nat) : Option Nat := match nth ops j with
  | some o => o.dst
  | none => none
def wantV (want : Bool) : Option V → Option Bool
  | none => some false
  | some v => match v with
    | .bool b => some (b == want)
    | .any => none
    | .top => none
    | _ => some false
/-- Is an operation wanted? (none: that cannot be seen) -/
def wantedA (all : List Oper) (o : Oper) (env : T V) : Option Bool := match o.guard with
  | none => some true
  | some (j, want) => match dstOf all j with
    | none => some false
    | some d => wantV want (env.get d)
def putA {β : Type} (env : T V) (d : Option Nat) (v : V) (k : T V → β) : β := Option.rec (motive := fun _ => β) (k env) (fun d => env.putK d (some v) k) d

def mapOpd (env : T V) (xs : Array Operand) : List V := xs.toList.map (opd env)
abbrev Ex := Pg → Cal → T V → H → R

def ret1 (h : H) (v : V) : R := some (v, h)
def xMove (x : Operand) : Ex := fun _ _ env h => opk env x (ret1 h)
def pickV (a b : R) : V → R := fun c => match c with
  | .bool true => a
  | .bool false => b
  | _ => none
def xPick (c a b : Operand) : Ex := fun _ _ env h => opk env c (pickV (opk env a (ret1 h)) (opk env b (ret1 h)))
def mkPtr (l : Nat) (h : H) : R := some (.ptr l 0, h)
def xAlloc (t : Nat) : Ex := fun p _ _ h => match zeroOf p t with
  | some z => newRow h t z.cells false .no mkPtr
  | none => none
def xBox (t : Nat) (x : Operand) : Ex := fun _ _ env h => opk env x fun v => notTop none (newRow h t v.cells false .no mkPtr) v
def placesOf (p : Pg) : List Field → Option (List (Nat × Nat))
  | [] => some []
  | f :: fs => match szOf p f.type, placesOf p fs with
    | some s, some l => some ((f.offset, s) :: l)
    | _, _ => none
def parts (env : T V) : List (Nat × Operand) → (List (Nat × V) → R) → R
  | [], k => k []
  | (i, x) :: r, k => opk env x fun v => parts env r fun r => k ((i, v) :: r)
def aggR (h : H) : Option (List V) → R
  | some cs => some (.agg cs, h)
  | none => none
def buildR (p : Pg) (h : H) (z : List V) (ps : List (Nat × V)) : Option TypeDesc → R
  | some (.struct fs) => match placesOf p fs.toList with
    | some pl => aggR h (fillAll (nth pl) z ps)
    | none => none
  | some (.array _ e) => match szOf p e with
    | some s => aggR h (fillAll (fun i => some (Nat.mul i s, s)) z ps)
    | none => none
  | _ => none
def xBuild (t : Nat) (ps : Array (Nat × Operand)) : Ex := fun p _ env h => match zeroOf p t with
  | some z => parts env ps.toList fun ps => buildR p h z.cells ps (und p t)
  | none => none
def sliceR (e n : Nat) (h : H) : Option (List V) → R
  | some cs => newRow h e cs false .no fun l h => some (.sl l 0 n (some n), h)
  | none => none
def xBuildSlice (t n : Nat) (ps : Array (Nat × Operand)) : Ex := fun p _ env h => match und p t with
  | some (.slice e) => match szOf p e, zeroOf p e with
    | some s, some z => match Nat.ble (Nat.mul n s) 16777216 && Nat.beq (len z.cells) s with
      | true => parts env ps.toList fun ps => sliceR e n h (fillAll (fun i => some (Nat.mul i s, s)) (rep n z.cells) ps)
      | false => none
    | _, _ => none
  | _ => none
def xLoad (t : Nat) (a : Operand) : Ex := fun p _ env h => opk env a fun a => exV (loadP p t a h) h
def xStore (t : Nat) (a x : Operand) : Ex := fun p _ env h => opk env a fun a => opk env x fun x => exH (storeP p t a x h)
def nilV (h : H) : V → R
  | .nilp => none
  | .nili => none
  | .nilf => none
  | .any => none
  | .top => none
  | .func fn a b => match fn with
    | .method _ => none
    | _ => some (.func fn a b, h)
  | v => some (v, h)
def xNil (x : Operand) : Ex := fun _ _ env h => opk env x (nilV h)
def xBin (op : BinOp) (t : Nat) (x y : Operand) : Ex := fun p _ env h => opk env x fun a => opk env y fun b => match guardOk p op t x y a b with
  | true => exV (binA p h op t a b) h
  | false => none
def xUn (op : UnOp) (x : Operand) : Ex := fun _ _ env h => opk env x fun a => exV (unA op a) h
def xConv (src dst : Nat) (x : Operand) : Ex := fun p _ env h => opk env x fun a => convA p src dst a h
def ifaceR (t : Nat) (v : V) (h : H) : Option TypeDesc → R
  | some (.interface _) => none
  | some _ => some (.iface t v, h)
  | none => none
def xIface (t : Nat) (x : Operand) : Ex := fun p _ env h => opk env x fun a => ifaceR t a h (und p t)
def xFunc (fn : Fn) (a b : Array Operand) : Ex := fun _ _ env h => match fn with
  | .func f => opks env a.toList fun a => opks env b.toList fun b => some (.func (.func f) a b, h)
  | _ => none
def mapR (h : H) : Option TypeDesc → R
  | some (.map ..) => h.new (.mapo [] 0) fun l h => some (.map l, h)
  | _ => none
def mapHint (r : R) : V → R
  | .int _ _ => r
  | _ => none
def xMap (t : Nat) (r : Option Operand) : Ex := fun p _ env h => match r with
  | none => mapR h (und p t)
  | some x => opk env x (mapHint (mapR h (und p t)))
def mkSl (p : Pg) (e n c : Nat) (h : H) : R := match p.ty.get e, zeroOf p e with
  | some i, some z => match Nat.ble n c && Nat.ble c 281474976710656 && Nat.ble (Nat.mul i.bytes c) 281474976710656 && Nat.beq (len z.cells) i.size with
    | true => newRow h e (rep c z.cells) false .no fun l h => some (.sl l 0 n (some c), h)
    | false => none
  | _, _ => none
def xSlice0 (t : Nat) (n c : Operand) : Ex := fun p _ env h => opk env n fun n => opk env c fun c => match und p t, natOf n, natOf c with
  | some (.slice e), some n, some c => mkSl p e n c h
  | _, _, _ => none
def opkO {β : Type} (env : T V) (x : Option Operand) (k : Option V → β) : β := match x with
  | none => k none
  | some x => opk env x fun v => k (some v)
def xSlice (t : Nat) (x : Operand) (lo hi mx : Option Operand) : Ex := fun p _ env h =>
  opk env x fun x => opkO env lo fun lo => opkO env hi fun hi => opkO env mx fun mx => exV (sliceA p t x lo hi mx h) h
def faR (p : Pg) (f : Field) (h : H) : V → R
  | .ptr l o => match szOf p f.type with
    | some (_ + 1) => forceNat (Nat.add o f.offset) fun o => some (.ptr l o, h)
    | _ => none
  | _ => none
def xFieldAddr (t : Nat) (x : Operand) (f : Nat) : Ex := fun p _ env h => match fieldsOf p t f with
  | some f => opk env x (faR p f h)
  | none => none
def fR (p : Pg) (f : Field) (h : H) : V → R
  | .agg cs => exV (part p f.type cs f.offset) h
  | _ => none
def xField (t : Nat) (x : Operand) (f : Nat) : Ex := fun p _ env h => match fieldsOf p t f with
  | some f => opk env x (fR p f h)
  | none => none
def xIdxAddr (t : Nat) (x i : Operand) : Ex := fun p _ env h => opk env x fun x => opk env i fun i => exV (idxAddr p t x i) h
def xIndex (t : Nat) (x i : Operand) : Ex := fun p _ env h => opk env x fun x => opk env i fun i => exV (indexA p t x i) h
def xLookup (t : Nat) (x k : Operand) (ok : Bool) : Ex := fun p _ env h => opk env x fun x => opk env k fun k => exV (lookA p t x k ok h) h
def xUpd (t : Nat) (m k x : Operand) : Ex := fun p _ env h => opk env m fun m => opk env k fun k => opk env x fun x => exH (updA p t m k x h)
def rangeR (h : H) : V → Option TypeDesc → R
  | .str s, some .string => h.new (.strI s 0) mkPtr
  | .nilm, some (.map ..) => h.new (.mapI none 0 [] 0) mkPtr
  | .map m, some (.map ..) => match h.get m with
    | some (.mapo _ clock) => h.new (.mapI (some m) clock [] clock) mkPtr
    | _ => none
  | _, _ => none
def xRange (t : Nat) (x : Operand) : Ex := fun p _ env h => opk env x fun x => rangeR h x (und p t)
def xNext (it : Operand) (isStr : Bool) : Ex := fun _ _ env h => opk env it fun x => nextA x isStr h
def extR (i : Nat) (h : H) : V → R
  | .tup vs => exV (nth vs i) h
  | _ => none
def xExtract (t : Operand) (i : Nat) : Ex := fun _ _ env h => opk env t (extR i h)
def callR (cal : Cal) (args : List V) (h : H) : V → R
  | .func fn first cap => cal fn (first ++ (args ++ cap)) h
  | _ => none
def callF (as : Array Operand) (f : Operand) : Ex := fun _ cal env h => opks env as.toList fun as => opk env f (callR cal as h)
def callB (as : Array Operand) (ts : Array TypeId) (b : Builtin) : Ex := fun p _ env h => opks env as.toList fun as => builtA p b ts.toList as h
def xNone : Ex := fun _ _ _ _ => none
def calleeX (as : Array Operand) (ts : Array TypeId) : Callee → Ex
  | .value f => callF as f
  | .builtin b => callB as ts b
  | .invoke .. => xNone
def xCall (c : Call) : Ex := calleeX c.args c.argTypes c.callee

def execA : Op → Ex
  | .move x => xMove x
  | .assign x => xMove x
  | .pick c a b => xPick c a b
  | .alloc t => xAlloc t
  | .box t x => xBox t x
  | .build t ps => xBuild t ps
  | .buildSlice t n ps => xBuildSlice t n ps
  | .load t a => xLoad t a
  | .store t a x => xStore t a x
  | .nilCheck x => xNil x
  | .binOp op t x y _ => xBin op t x y
  | .unOp op _ x => xUn op x
  | .convert src dst x => xConv src dst x
  | .makeInterface t x => xIface t x
  | .makeFunc fn a b => xFunc fn a b
  | .makeMap t r => xMap t r
  | .makeSlice t n c => xSlice0 t n c
  | .slice t x lo hi mx => xSlice t x lo hi mx
  | .fieldAddr t x f => xFieldAddr t x f
  | .field t x f => xField t x f
  | .indexAddr t x i => xIdxAddr t x i
  | .index t x i => xIndex t x i
  | .lookup t x k ok => xLookup t x k ok
  | .mapUpdate t m k x => xUpd t m k x
  | .insert t m k x => xUpd t m k x
  | .range t x => xRange t x
  | .next it isStr => xNext it isStr
  | .extract t i => xExtract t i
  | .call c => xCall c
  | _ => xNone

def goOn (d : Option Nat) (env : T V) (k : T V → H → Option (T V × H)) (r : R) : Option (T V × H) :=
  Option.rec (motive := fun _ => Option (T V × H)) none (fun x => Prod.rec (motive := fun _ => Option (T V × H)) (fun v h => putA env d v fun env => k env h) x) r
def runO (p : Pg) (cal : Cal) (o : Oper) (k : T V → H → Option (T V × H)) (env : T V) (h : H) : Option (T V × H) := goOn o.dst env k (execA o.op p cal env h)
def passO (o : Oper) (k : T V → H → Option (T V × H)) (env : T V) (h : H) : Option (T V × H) := putA env o.dst undef fun env => k env h
def guardO (p : Pg) (cal : Cal) (o : Oper) (k : T V → H → Option (T V × H)) (env : T V) (h : H) (b : Option Bool) : Option (T V × H) :=
  Option.rec (motive := fun _ => Option (T V × H)) none (fun b => Bool.rec (motive := fun _ => Option (T V × H)) (passO o k env h) (runO p cal o k env h) b) b
def stepO (p : Pg) (cal : Cal) (all : List Oper) (o : Oper) (k : T V → H → Option (T V × H)) (env : T V) (h : H) : Option (T V × H) :=
  Option.rec (motive := fun _ => Option (T V × H)) (runO p cal o k env h) (fun _ => guardO p cal o k env h (wantedA all o env)) o.guard
def doneO (env : T V) (h : H) : Option (T V × H) := some (env, h)
def evalOps (p : Pg) (cal : Cal) (all : List Oper) (os : List Oper) : T V → H → Option (T V × H) :=
  List.rec (motive := fun _ => T V → H → Option (T V × H)) doneO (fun o _ ih => stepO p cal all o ih) os

/-! ### Regions that draw their order -/

def isEffB : Builtin → Bool
  | .len | .cap | .min | .max | .unsafeSliceData => false
  | _ => true
def isEffC : Callee → Bool
  | .builtin b => isEffB b
  | _ => true
/-- May an operation turn the heap? -/
def isEff (p : Pg) : Op → Bool
  | .move _ | .assign _ | .pick .. | .build .. | .load .. | .nilCheck _ | .binOp .. | .unOp .. | .makeInterface .. | .makeFunc ..
  | .slice .. | .fieldAddr .. | .field .. | .indexAddr .. | .index .. | .lookup .. | .extract .. => false
  | .convert _ d _ => match und p d with
    | some (.slice _) => true
    | none => true
    | _ => false
  | .call c => isEffC c.callee
  | _ => true

def bindsA (e : Edge) : Bool := match e.ground with
  | .textOnly _ => false
  | .gcOnly _ => false
  | _ => true
def nthD (l : List Nat) (i : Nat) : Nat := match nth l i with
  | some n => n
  | none => 0
def maskOf (acc : List Nat) : List Edge → Nat → Nat
  | [], m => m
  | e :: es, m => match bindsA e with
    | true => maskOf acc es (Nat.lor (Nat.lor m (Nat.pow 2 e.on)) (nthD acc e.on))
    | false => maskOf acc es m
/-- Of each operation the ones that stand ahead of it in every order, as bits. -/
def ancs : List Oper → List Nat → List Nat
  | [], acc => acc
  | o :: os, acc => forceNat (maskOf acc o.after.toList 0) fun m => ancs os (acc ++ [m])
def backs (i : Nat) : List Edge → Bool
  | [] => true
  | e :: es => match bindsA e with
    | true => Nat.blt e.on i && backs i es
    | false => backs i es
def backsAll : List Oper → Nat → Bool
  | [], _ => true
  | o :: os, i => backs i o.after.toList && backsAll os (Nat.succ i)
def isFlt : Op → Bool
  | .alloc _ => true
  | _ => false
def effIdx (p : Pg) : List Oper → Nat → List Nat
  | [], _ => []
  | o :: os, i => match isEff p o.op with
    | true => i :: effIdx p os (Nat.succ i)
    | false => effIdx p os (Nat.succ i)
/-- All of a list stand ahead of what has these bits. -/
def allIn (m : Nat) : List Nat → Bool
  | [] => true
  | e :: r => match Nat.testBit m e with
    | true => allIn m r
    | false => false
/-- Each effect stands behind all that turn the heap ahead of it, but what just makes a new variable. -/
def chain (as : List Nat) (fs : List Nat) : List Nat → List Nat → Bool
  | _, [] => true
  | before, e :: r => (match memN e fs with
    | true => true
    | false => allIn (nthD as e) before) && chain as fs (e :: before) r
def upTo (e : Nat) : List Nat → List Nat
  | [] => []
  | i :: r => match Nat.blt i e with
    | true => i :: upTo e r
    | false => []
/-- What hangs on a new variable hangs on all that turn the heap ahead of it, too. -/
def fltIn (m : Nat) (es : List Nat) : List Nat → Bool
  | [] => true
  | f :: r => (match Nat.testBit m f with
    | true => allIn m (upTo f es)
    | false => true) && fltIn m es r
def fltOk (es fs : List Nat) : List Nat → Bool
  | [] => true
  | m :: r => fltIn m es fs && fltOk es fs r
def fltIdx : List Oper → Nat → List Nat
  | [], _ => []
  | o :: os, i => match isFlt o.op with
    | true => i :: fltIdx os (Nat.succ i)
    | false => fltIdx os (Nat.succ i)
def tmpsOf : List Operand → List Nat
  | [] => []
  | .tmp t :: r => t :: tmpsOf r
  | _ :: r => tmpsOf r
def dstL : Option Nat → List Nat
  | none => []
  | some d => [d]
def guardL (all : List Oper) : Option (Nat × Bool) → List Nat
  | none => []
  | some (j, _) => dstL (dstOf all j)
/-- The temporaries that an operation names. -/
def namesOf (all : List Oper) (o : Oper) : List Nat := dstL o.dst ++ (guardL all o.guard ++ tmpsOf o.op.operands.toList)
def meets (d : Option Nat) (l : List Nat) : Bool := match d with
  | none => false
  | some d => memN d l
/-- Two operations that share a temporary that one of them writes stand in order. -/
def apartFrom (all : List Oper) (as : List Nat) (i : Nat) (o : Oper) : List Oper → Nat → Bool
  | [], _ => true
  | q :: r, j => (match meets o.dst (namesOf all q) || meets q.dst (namesOf all o) with
    | true => Nat.testBit (nthD as j) i
    | false => true) && apartFrom all as i o r (Nat.succ j)
def apartAll (all : List Oper) (as : List Nat) : List Oper → Nat → Bool
  | [], _ => true
  | o :: r, i => apartFrom all as i o r (Nat.succ i) && apartAll all as r (Nat.succ i)
def drawOk (p : Pg) (ops : List Oper) : Bool :=
  backsAll ops 0 && chain (ancs ops []) (fltIdx ops 0) [] (effIdx p ops 0) && fltOk (effIdx p ops 0) (fltIdx ops 0) (ancs ops []) && apartAll ops (ancs ops []) ops 0
def countLo (a : Nat) : List Nat → Nat
  | [] => 0
  | e :: r => match Nat.testBit a e with
    | true => Nat.succ (countLo a r)
    | false => 0
def countHi (as : List Nat) (i : Nat) : List Nat → Nat
  | [] => 0
  | e :: r => match Nat.testBit (nthD as e) i with
    | true => 0
    | false => Nat.succ (countHi as i r)
structure PlanE where
  o : Oper
  eff : Bool
  flt : Bool
  lo : Nat
  hi : Nat
def planOf (p : Pg) (as es : List Nat) : List Oper → Nat → List PlanE
  | [], _ => []
  | o :: r, i => forceNat (countLo (nthD as i) es) fun lo => forceNat (countHi as i es) fun hi => ⟨o, isEff p o.op, isFlt o.op, lo, hi⟩ :: planOf p as es r (Nat.succ i)
def plan (p : Pg) (ops : List Oper) : List PlanE := planOf p (ancs ops []) (effIdx p ops 0) ops 0

def sameR (v : V) : R → Bool
  | some (v', _) => beqV 40 v v'
  | none => false
/-- Does an operation give this value over another heap, too? -/
def sameIn (p : Pg) (cal : Cal) (o : Oper) (env : T V) (v : V) (h : H) : Bool := sameR v (execA o.op p cal env h)
def firstN (f : H → Bool) : Nat → List H → Bool
  | 0, _ => true
  | _ + 1, [] => false
  | n + 1, h :: hs => match f h with
    | true => firstN f n hs
    | false => false
structure Pend where
  o : Oper
  env : T V
  v : V
  hi : Nat
def pendOk (p : Pg) (cal : Cal) (j : Nat) (h : H) : List Pend → Bool
  | [] => true
  | x :: r => match Nat.ble j x.hi with
    | true => match sameIn p cal x.o x.env x.v h with
      | true => pendOk p cal j h r
      | false => false
    | false => pendOk p cal j h r

abbrev DK := Nat → T V → H → Nat → List H → List Pend → Option (T V × H)
/-- An operation that reads, in a region that draws its order. -/
def pureD (p : Pg) (cal : Cal) (e : PlanE) (k : DK) (b : Nat) (env : T V) (h : H) (j : Nat) (past : List H) (pend : List Pend) (r : R) : Option (T V × H) := match r with
  | none => none
  | some (v, _) => match firstN (sameIn p cal e.o env v) (Nat.sub j e.lo) past with
    | false => none
    | true => putA env e.o.dst v fun env' => match Nat.blt j e.hi with
      | true => k b env' h j past (⟨e.o, env, v, e.hi⟩ :: pend)
      | false => k b env' h j past pend
def effD (p : Pg) (cal : Cal) (e : PlanE) (k : DK) (b : Nat) (env : T V) (h : H) (j : Nat) (past : List H) (pend : List Pend) (r : R) : Option (T V × H) := match r with
  | none => none
  | some (v, h') => match pendOk p cal (Nat.succ j) h' pend with
    | false => none
    | true => putA env e.o.dst v fun env => k b env h' (Nat.succ j) (h :: past) pend
/-- A new variable at an id that was laid aside. -/
def allocAt (p : Pg) (b : Nat) (h : H) : Op → R
  | .alloc t => match zeroOf p t with
    | some z => T.lf.putsK (nat_lit 0) z.cells fun vs => forceNat (len z.cells) fun n => h.set b (.cells vs n t .no false) fun h => some (.ptr b 0, h)
    | none => none
  | _ => none
def stepD (p : Pg) (cal : Cal) (all : List Oper) (e : PlanE) (k : DK) : DK := fun b env h j past pend => match e.flt with
  | true => match e.o.guard with
    | none => forceNat (Nat.succ b) fun b' => effD p cal e k b' env h j past pend (allocAt p b h e.o.op)
    | some _ => none
  | false => match wantedA all e.o env, e.eff with
    | some true, false => pureD p cal e k b env h j past pend (execA e.o.op p cal env h)
    | some true, true => effD p cal e k b env h j past pend (execA e.o.op p cal env h)
    | some false, false => putA env e.o.dst undef fun env => k b env h j past pend
    | some false, true => putA env e.o.dst undef fun env => k b env h (Nat.succ j) (h :: past) pend
    | none, _ => none
def doneD : DK := fun _ env h _ _ _ => some (env, h)
def evalD (p : Pg) (cal : Cal) (all : List Oper) (es : List PlanE) : DK :=
  List.rec (motive := fun _ => DK) doneD (fun e _ ih => stepD p cal all e ih) es
def evalDraw (p : Pg) (cal : Cal) (ops : List Oper) (env : T V) (h : H) : Option (T V × H) := match drawOk p ops with
  | true => h.bump (len (fltIdx ops 0)) fun b h => evalD p cal ops (plan p ops) b env h 0 [] []
  | false => none

inductive Out where
  | normal
  | exit (id : Nat)
  | ret
  | goto (l : Nat)

structure Res where
  out : Out
  env : T V
  marks : List Nat
  h : H

abbrev St := T V → List Nat → H → Option Res

def loopK (again : St) : Option Res → Option Res
  | some ⟨out, env, d, h⟩ => match out with
    | .normal => again env d h
    | .exit id => some ⟨.exit id, env, d, h⟩
    | .ret => some ⟨.ret, env, d, h⟩
    | .goto l => some ⟨.goto l, env, d, h⟩
  | none => none
def loopN (step : St) (n : Nat) : St :=
  Nat.rec (motive := fun _ => St) (fun _ _ _ => none) (fun _ ih env d h => loopK ih (step env d h)) n

def fromOps (d : List Nat) : Option (T V × H) → Option Res
  | some (env, h) => some ⟨.normal, env, d, h⟩
  | none => none
def condK (a b : Option Res) : V → Option Res
  | .bool true => a
  | .bool false => b
  | _ => none
def blockK (id : Nat) : Option Res → Option Res
  | some ⟨out, env, d, h⟩ => match out with
    | .normal => some ⟨.normal, env, d, h⟩
    | .exit id' => match Nat.beq id' id with
      | true => some ⟨.normal, env, d, h⟩
      | false => some ⟨.exit id', env, d, h⟩
    | .ret => some ⟨.ret, env, d, h⟩
    | .goto l => some ⟨.goto l, env, d, h⟩
  | none => none
def endedK (env : T V) (d : List Nat) (h : H) : Option Code → Option Res
  | none => some ⟨.normal, env, d, h⟩
  | some .ret => some ⟨.ret, env, d, h⟩
  | some (.exit id) => some ⟨.exit id, env, d, h⟩
  | _ => none
def endLoopA (l : Nat) (env : T V) (d : List Nat) : R → Option Res
  | some (_, h) => match h.get l with
    | some (.loop e0 ps a b st pend dl) => match st with
      | .busy => none
      | _ => h.set l (.loop e0 ps a b .exhausted pend dl) fun h => endedK env d h pend
    | _ => none
  | none => none
def rangeGo (cal : Cal) (ps : List Nat) (a b : Code) (fn : Fn) (first cap : List V) (env : T V) (dl : Nat) (d : List Nat) (h : H) : Option Res :=
  h.new (.loop env ps a b .ready none dl) fun l h => endLoopA l env d (cal fn (first ++ ([.func (.yield l) [] []] ++ cap)) h)
def hasBody (p : Pg) : Fn → Bool
  | .func f => match p.fn.get f with
    | some g => g.body.isSome
    | none => false
  | _ => false
def rangeK (p : Pg) (cal : Cal) (rnd : Option Nat) (ps : List Nat) (a b : Code) (env : T V) (d : List Nat) (h : H) : V → Option Res
  | .func fn first cap => match hasBody p fn with
    | true => match rnd with
      | some l0 => match h.get l0 with
        | some (.loop _ _ _ _ _ _ dl) => rangeGo cal ps a b fn first cap env dl d h
        | _ => none
      | none => h.new (.defd true) fun dl h => rangeGo cal ps a b fn first cap env dl (dl :: d) h
    | false => none
  | _ => none

def cSkip : St := fun env d h => some ⟨.normal, env, d, h⟩
def regionK (p : Pg) (cal : Cal) (ops : List Oper) (env : T V) (h : H) (draw : Bool) : Option (T V × H) :=
  Bool.rec (motive := fun _ => Option (T V × H)) (evalOps p cal ops ops env h) (evalDraw p cal ops env h) draw
def cRegion (p : Pg) (cal : Cal) (_ : Nat) (ops : Array Oper) (draw : Bool) : St := fun env d h => fromOps d (regionK p cal ops.toList env h draw)
def cSeq (_ _ : Code) (a b : St) : St := fun env d h => loopK b (a env d h)
def cCond (c : Operand) (_ _ : Code) (a b : St) : St := fun env d h => opk env c (condK (a env d h) (b env d h))
def cBlock (id : Nat) (_ : Code) (a : St) : St := fun env d h => blockK id (a env d h)
def cLoop (n : Nat) (_ : Code) (a : St) : St := loopN a n
def cRange (p : Pg) (cal : Cal) (rnd : Option Nat) (f : Operand) (ps : Array Tmp) (a b : Code) (_ _ : St) : St := fun env d h => opk env f (rangeK p cal rnd ps.toList a b env d h)
def cExit (id : Nat) : St := fun env d h => some ⟨.exit id, env, d, h⟩
def cScope (_ : Code) (_ : St) : St := fun _ _ _ => none
def cLabel (_ : Nat) : St := cSkip
def cGoto (l : Nat) : St := fun env d h => some ⟨.goto l, env, d, h⟩
def cRet : St := fun env d h => some ⟨.ret, env, d, h⟩
def cRefuse (_ : String) : St := fun _ _ _ => none

def evalC (p : Pg) (cal : Cal) (rnd : Option Nat) (lf : Nat) (c : Code) : St :=
  Code.rec (motive := fun _ => St) cSkip (cRegion p cal) cSeq cCond cBlock (cLoop lf) (cRange p cal rnd) cExit cScope cLabel cGoto cRet cRefuse c

def resA (p : Pg) (env : T V) (h : H) : List ResultVar → Option (List V)
  | [] => some []
  | .tmp t :: rs => match resA p env h rs with
    | some l => some (opd env (.tmp t) :: l)
    | none => none
  | .cell a t :: rs => match loadP p t (opd env (.tmp a)) h with
    | some v => match resA p env h rs with
      | some l => some (v :: l)
      | none => none
    | none => none

def takeMarks (h : H) : List Nat → Option H
  | [] => some h
  | m :: ms => match h.get m with
    | some (.defd true) => h.set m (.defd false) fun h => takeMarks h ms
    | _ => none

def putMany {β : Type} (env : T V) : List Nat → List V → (T V → β) → β
  | t :: ts, v :: vs, c => env.putK t (some v) fun env => putMany env ts vs c
  | _, _, c => c env

def idxB (c : Nat) : List Nat → Nat → V
  | [], _ => .int .i64 (-1)
  | b :: t, i => match Nat.beq b c with | true => .int .i64 (.ofNat i) | false => idxB c t (Nat.succ i)
def cntB (c : Nat) : List Nat → Nat → Nat
  | [], n => n
  | b :: t, n => match Nat.beq b c with | true => cntB c t (Nat.succ n) | false => cntB c t n
def noEscN (args : List V) (h : H) : R := match args with
  | [x] => some (x, h)
  | _ => none
def idxN (args : List V) (h : H) : R := match args with
  | [.str s, .int .u8 (.ofNat c)] => match Nat.blt c 256 with
    | true => some (idxB c s 0, h)
    | false => none
  | _ => none
def cntN (args : List V) (h : H) : R := match args with
  | [.str s, .int .u8 (.ofNat c)] => match Nat.blt c 256 with
    | true => forceNat (cntB c s 0) fun n => some (.int .i64 (.ofNat n), h)
    | false => none
  | _ => none
def mnzN (p : Pg) (ts : List Nat) (args : List V) (h : H) : R := match args with
  | [.int .i64 (.ofNat n)] => match ts with
    | [t] => match und p t with
      | some (.slice e) => match szOf p e with
        | some 1 => match Nat.ble n 281474976710656 with
          | true => newRow h e (List.replicate n .any) true .no fun l h => some (.sl l 0 n none, h)
          | false => none
        | _ => none
      | _ => none
    | _ => none
  | _ => none
def natives (p : Pg) (fn : Func) (args : List V) (h : H) : R :=
  match fn.name with
  | "internal/abi.NoEscape" => noEscN args h
  | "internal/bytealg.IndexByteString" => idxN args h
  | "internal/bytealg.CountString" => cntN args h
  | "internal/bytealg.MakeNoZero" => mnzN p fn.resultTypes.toList args h
  | _ => none

def finA (p : Pg) (g : Func) (env : T V) (marks : List Nat) (h : H) : R := match takeMarks h marks with
  | none => none
  | some h => match resA p env h g.results.toList with
    | none => none
    | some vs => match vs with
      | [v] => some (v, h)
      | _ => some (.tup vs, h)
def endA (p : Pg) (g : Func) : Option Res → R
  | some ⟨out, env, marks, h⟩ => match out with
    | .normal => finA p g env marks h
    | .ret => finA p g env marks h
    | _ => none
  | none => none
def enterK (p : Pg) (cal : Cal) (lf : Nat) (g : Func) (c : Code) (args : List V) (h : H) : R :=
  T.lf.putsK (nat_lit 0) args fun env => endA p g (evalC p cal none lf c env [] h)
def endRoundA (l : Nat) : Option Res → R
  | some ⟨out, _, d, h⟩ => match d with
    | [] => match h.get l with
      | some (.loop e3 ps3 a3 b3 _ _ dl3) => match out with
        | .normal => h.set l (.loop e3 ps3 a3 b3 .ready none dl3) fun h => some (.bool true, h)
        | .ret => h.set l (.loop e3 ps3 a3 b3 .done (some .ret) dl3) fun h => some (.bool false, h)
        | .exit id => h.set l (.loop e3 ps3 a3 b3 .done (some (.exit id)) dl3) fun h => some (.bool false, h)
        | .goto _ => none
      | _ => none
    | _ => none
  | none => none
def bodyK (p : Pg) (cal : Cal) (lf l : Nat) (body : Code) : Option Res → R
  | some ⟨out, env, d, h⟩ => match out, d with
    | .normal, [] => match h.get l with
      | some (.loop e2 ps2 a2 b2 st pend2 dl2) => match st with
        | .ready => h.set l (.loop e2 ps2 a2 b2 .busy pend2 dl2) fun h => endRoundA l (evalC p cal (some l) lf body env [] h)
        | _ => none
      | _ => none
    | _, _ => none
  | none => none
def roundK (p : Pg) (cal : Cal) (lf l : Nat) (args : List V) (h : H) : R := match h.get l with
  | some (.loop env ps assign body _ _ _) => match Nat.beq (len ps) (len args) with
    | false => none
    | true => putMany env ps args fun env => bodyK p cal lf l body (evalC p cal (some l) lf assign env [] h)
  | _ => none

def callN (p : Pg) (lf : Nat) : Nat → Cal
  | 0, _, _, _ => none
  | n + 1, fn, args, h => match fn with
    | .func f => match p.fn.get f with
      | none => none
      | some g => match g.body with
        | none => natives p g args h
        | some c => enterK p (callN p lf n) lf g c args h
    | .yield l => roundK p (callN p lf n) lf l args h
    | _ => none

end
end Go.Am
