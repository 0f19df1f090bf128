/- The operations, gathered; how they come out of the program's. Over any program. -/
import Derived.Test.YtilmfhpoiejmfaaLh7d
namespace Go.Proofs.Ytilmfhpoiejmfaa.Lh
set_option linter.unusedSimpArgs false
set_option linter.unusedVariables false
set_option linter.unusedSectionVars false
open Go.RowKit
variable [Fz]
inductive LOp where
  | move (x : LOpd)
  | pick (c x y : LOpd)
  | alloc (ty : TypeId) (z : Segs)
  | box (ty : TypeId) (m : Nat) (x : LOpd)
  | load (m : Option Nat) (x : LOpd)
  | store (m : Nat) (x y : LOpd)
  | nilc (x : LOpd)
  | bin (op : BinOp) (x y : LOpd)
  | un (op : UnOp) (x : LOpd)
  | toInt (k : IntKind) (x : LOpd)
  | appZ (w b : Nat) (e : TypeId) (z : Segs) (x y : LOpd)
  | strStr (x : LOpd)
  | slId (x : LOpd)
  | mkIface (ty : TypeId) (x : LOpd)
  | mkFunc (f : FuncId) (xs : List LOpd)
  | field (off : Nat) (x : LOpd)
  | idxArr (w m : Nat) (x y : LOpd)
  | idxSl (w : Nat) (x y : LOpd)
  | ext (i : Nat) (x : LOpd)
  | idxStr (x y : LOpd)
  | lenStr (x : LOpd)
  | lenSl (x : LOpd)
  | lenArr (m : Nat)
  | slStr (x : LOpd) (lo hi : Option LOpd)
  | slSl (w : Nat) (x : LOpd) (lo hi : Option LOpd)
  | slArr (w m : Nat) (x : LOpd) (lo hi : Option LOpd)
  | slNone (x : LOpd)
  | make (w bytes : Nat) (e : TypeId) (z : Segs) (x y : LOpd)
  | app (w bytes : Nat) (e : TypeId) (x y : LOpd)
  | shc (left : Bool) (p : Int) (k : IntKind) (x : LOpd)
  | bsl (w m : Nat) (e : TypeId) (z : Segs) (xs : List (Nat × LOpd))
  | bar (w m : Nat) (z : Segs) (xs : List (Nat × LOpd))
  | bst (z : Segs) (xs : List (Nat × Nat × LOpd))
  | copy (w : Nat) (x y : LOpd)
  | clear (w : Nat) (z : Segs) (x : LOpd)
  | toStr (x : LOpd)
  | toBytes (e : TypeId) (x : LOpd)
  | beq (neg : Bool) (x y : LOpd)
  | peq (neg : Bool) (x y : LOpd)
  | st (neg : Bool) (r : List (Nat × Nat)) (x y : LOpd)
  | ar (neg : Bool) (m : Nat) (k : IntKind) (x y : LOpd)
  | ar2 (neg : Bool) (m n : Nat) (k : IntKind) (x y : LOpd)
  | ifNil (neg : Bool) (x : LOpd)
  | tyAs (T : TypeId) (x : LOpd)
  | slNil (neg : Bool) (x : LOpd)
  | mm (mx : Bool) (x y : LOpd)
  | slSl3 (w : Nat) (x : LOpd) (lo : Option LOpd) (hi mx : LOpd)
  | slArr3 (w m : Nat) (x : LOpd) (lo : Option LOpd) (hi mx : LOpd)
  | atLoad (x : LOpd)
  | atAdd (x y : LOpd)
  | atStore (x y : LOpd)
/-- A package's variable that is read alone. -/
def deGl : LVal → LVal
  | .gl g => match Fz.glob g with
    | some s => .rptr s
    | none => .gl g
  | v => v
theorem deGl_PV {T : Nat → Nat → Prop} {w0 : World} {ρ : Pl} {h : LHeap} {w : World} (hs : Sim T w0 ρ h w) {v : LVal} {x : Value} (hv : PV ρ v x) : PV ρ (deGl v) x := by
  cases v <;> try exact hv
  rename_i g
  show PV ρ (match Fz.glob g with | some s => .rptr s | none => .gl g) x
  cases hg : Fz.glob g with
  | none => exact hv
  | some s =>
    have hv : x = _ := hv
    rw [hv]
    exact PV.ext (ext0 ρ) _ _ (hs.glob g s hg)
def rdOpt (x : Option LOpd) (K : Option LVal → Rd) : Rd :=
  match x with
  | none => K none
  | some x => x.rd fun v => K (some v)
def opRd (n : Nat) : LOp → Rd
  | .move x => x.rd one
  | .pick c x y => c.rd fun v => pickRd v (x.rd one) (y.rd one)
  | .alloc ty z => .ret (newPtr n) [] (some ⟨z, ty, false, false⟩)
  | .box ty m x => x.rd fun v => cellsK v m fun s => .ret (newPtr n) [] (some ⟨s, ty, false, false⟩)
  | .load m x => x.rd fun v => loadRd m (deGl v)
  | .store m x y => x.rd fun v => y.rd fun u => storeRd m v u
  | .nilc x => x.rd nilRd
  | .bin op x y => x.rd fun v => y.rd fun u => binRd op v u
  | .un op x => x.rd (unRd op)
  | .toInt k x => x.rd (toIntRd k)
  | .strStr x => x.rd strRd
  | .slId x => x.rd slIdRd
  | .mkIface ty x => x.rd fun v => one (.iface ty v)
  | .mkFunc f xs => rdList xs fun vs => one (.func f vs)
  | .field off x => x.rd fun v => fieldRd off (deGl v)
  | .idxArr w m x y => x.rd fun v => y.rd fun u => idxArrRd w m (deGl v) u
  | .idxSl w x y => x.rd fun v => y.rd fun u => idxSlRd w v u
  | .ext i x => x.rd (extRd i)
  | .idxStr x y => x.rd fun v => y.rd fun u => idxStrRd v u
  | .lenStr x => x.rd lenStrRd
  | .lenSl x => x.rd lenSlRd
  | .lenArr m => one (.int .i64 m)
  | .slStr x lo hi => x.rd fun v => rdOpt lo fun l => rdOpt hi fun u => slStrRd l u v
  | .slSl w x lo hi => x.rd fun v => rdOpt lo fun l => rdOpt hi fun u => slSlRd w l u v
  | .slArr w m x lo hi => x.rd fun v => rdOpt lo fun l => rdOpt hi fun u => slArrRd w m l u v
  | .slNone x => x.rd slNoneRd
  | .make w b e z x y => x.rd fun v => y.rd fun u => makeRd n w b e z v u
  | .app w b e x y => x.rd fun v => y.rd fun u => appRd n w b e v u
  | .appZ w b e z x y => x.rd fun v => y.rd fun u => appZRd n w b e z v u
  | .shc left p k x => x.rd (shcRd left p k)
  | .bsl w m e z xs => partsRd w xs (fun _ => z) fun f => .ret (.slice ⟨n, [], 0⟩ 0 w m m (some m)) [] (some ⟨.rows m w f .nil, e, false, false⟩)
  | .bar w m z xs => partsRd w xs (fun _ => z) fun f => one (.agg (.rows m w f .nil))
  | .bst z xs => fieldsRd xs z fun s' => one (.agg s')
  | .copy w x y => x.rd fun v => y.rd fun u => copyRd w v u
  | .clear w z x => x.rd (clearRd w z)
  | .toStr x => x.rd toStrRd
  | .toBytes e x => x.rd (toBytesRd n e)
  | .beq neg x y => x.rd fun v => y.rd fun u => beqRd neg v u
  | .peq neg x y => x.rd fun v => y.rd fun u => peqRd neg v u
  | .st neg r x y => x.rd fun v => y.rd fun u => stRd neg r v u
  | .ar neg m k x y => x.rd fun v => y.rd fun u => arRd neg m k v u
  | .ar2 neg m n' k x y => x.rd fun v => y.rd fun u => ar2Rd neg m n' k v u
  | .ifNil neg x => x.rd (ifNilRd neg)
  | .tyAs T x => x.rd (tyAsRd T)
  | .slNil neg x => x.rd (slNilRd neg)
  | .mm mx x y => x.rd fun v => y.rd fun u => mmRd mx v u
  | .slSl3 w x lo hi mx => x.rd fun v => rdOpt lo fun l => hi.rd fun u => mx.rd fun m => slSl3Rd w l u m v
  | .slArr3 w k x lo hi mx => x.rd fun v => rdOpt lo fun l => hi.rd fun u => mx.rd fun m => slArr3Rd w k l u m v
  | .atLoad x => x.rd atLoadRd
  | .atAdd x y => x.rd fun v => y.rd fun u => atAddRd v u
  | .atStore x y => x.rd fun v => y.rd fun u => atStoreRd v u
def segApp : Segs → Segs → Segs
  | .nil, y => y
  | .one v r, y => .one v (segApp r y)
  | .rows n w f r, y => .rows n w f (segApp r y)
  | .res _, y => y
def zeroFields (g : TypeId → Option Segs) : List Field → Option Segs
  | [] => some .nil
  | x :: r => match g x.type, zeroFields g r with
    | some a, some b => some (segApp a b)
    | _, _ => none
def zeroSegs (P : Program) : Nat → TypeId → Option Segs
  | 0, _ => none
  | f + 1, t => match P.underlying t with
    | some (.struct fs) => zeroFields (zeroSegs P f) fs.toList
    | some (.array n e) => match zeroSegs P f e, P.info? e with
      | some z, some i => some (.rows n i.size (fun _ => z) .nil)
      | _, _ => none
    | some _ => match P.info? t with
      | some i => match i.zero with
        | some z => match constS z with
          | some v => some (.one v .nil)
          | none => none
        | none => none
      | none => none
    | none => none
/-- A type's zero: its cells' number, and its pieces. -/
def withZ (P : Program) (t : TypeId) (K : TypeInfo → Segs → Option LOp) : Option LOp :=
  withO (P.info? t) fun i => withO i.zero fun z => withO (zeroSegs P 30 t) fun s => when_ (flatEq s z.cells.toList && Nat.beq z.cells.size i.size) (K i s)
theorem withZ_some {P : Program} {t : TypeId} {K : TypeInfo → Segs → Option LOp} {r : LOp} (h : withZ P t K = some r) : ∃ i z s, P.info? t = some i ∧ i.zero = some z ∧ flatEq s z.cells.toList = true ∧ z.cells.size = i.size ∧ K i s = some r := by
  obtain ⟨i, h1, h⟩ := withO_some h
  obtain ⟨z, h2, h⟩ := withO_some h
  obtain ⟨s, h3, h⟩ := withO_some h
  obtain ⟨h4, h⟩ := when_some h
  simp only [Bool.and_eq_true] at h4
  exact ⟨i, z, s, h1, h2, h4.1, Nat.eq_of_beq_eq_true h4.2, h⟩
def withOpt (x : Option Operand) (K : Option LOpd → Option LOp) : Option LOp :=
  match x with
  | none => K none
  | some x => withO (compileOpd x) fun y => K (some y)
def isInt0 : Option Operand → Bool
  | some (.const (.int _ n)) => n == 0
  | _ => false
def compileB (P : Program) (b : Builtin) (args : List Operand) (ts : List TypeId) : Option LOp :=
  match b with
  | .len => match args with
    | [x] => withO ts[0]? fun ty => withO (P.underlying ty) fun d => withO (compileOpd x) fun X => match d with
      | .string => some (.lenStr X)
      | .slice _ => some (.lenSl X)
      | .array m _ => some (.lenArr m)
      | _ => none
    | _ => none
  | .append => match args with
    | [x, y] => match ts with
      | [tS, tX] => withO (P.underlying tS) fun d => withO (P.underlying tX) fun dx => match d with
        | .slice e => match dx with
          | .int _ => withZ P e fun i s => when_ (!(Nat.beq i.size 0)) (withO (compileOpd x) fun x => withO (compileOpd y) fun y => some (.appZ i.size i.bytes e s x y))
          | dx => withZ P e fun i _ => when_ ((match dx with | .string => true | .slice _ => true | _ => false) && !(Nat.beq i.size 0)) (withO (compileOpd x) fun x => withO (compileOpd y) fun y => some (.app i.size i.bytes e x y))
        | _ => none
      | _ => none
    | _ => none
  | .copy => match args with
    | [x, y] => match ts with
      | [tS, _] => withO (P.underlying tS) fun d => match d with
        | .slice e => withO (P.info? e) fun i => withO (compileOpd x) fun x => withO (compileOpd y) fun y => some (.copy i.size x y)
        | _ => none
      | _ => none
    | _ => none
  | .max => match args with
    | [x, y] => withO (compileOpd x) fun x => withO (compileOpd y) fun y => some (.mm true x y)
    | _ => none
  | .min => match args with
    | [x, y] => withO (compileOpd x) fun x => withO (compileOpd y) fun y => some (.mm false x y)
    | _ => none
  | .clear => match args with
    | [x] => match ts with
      | [tS] => withO (P.underlying tS) fun d => match d with
        | .slice e => withZ P e fun i s => withO (compileOpd x) fun x => some (.clear i.size s x)
        | _ => none
      | _ => none
    | _ => none
  | _ => none
/-- A shift by a constant: how far. -/
def shiftBy (k : IntKind) : Operand → Option Nat
  | .const (.int _ c) => match c with
    | .ofNat c => when_ (Nat.ble c k.bits) (some c)
    | _ => none
  | _ => none
def eqNeg : BinOp → Option Bool
  | .eql => some false
  | .neq => some true
  | _ => none
def isLeft : BinOp → Option Bool
  | .shl => some true
  | .shr => some false
  | _ => none
def isNilI : Operand → Bool
  | .const .nilIface => true
  | _ => false
def isNilSl : Operand → Bool
  | .const (.slice none 0 0) => true
  | _ => false
def compileBin (P : Program) (op : BinOp) (xT : TypeId) (X Y : Operand) : Option LOp :=
  withO (P.underlying xT) fun d => withO (compileOpd X) fun x => withO (compileOpd Y) fun y => match d with
    | .int k => match isLeft op with
      | some left => match shiftBy k Y with
        | some c => some (.shc left ((2 ^ c : Nat) : Int) k x)
        | none => some (.bin op x y)
      | none => some (.bin op x y)
    | .string => some (.bin op x y)
    | .bool => withO (eqNeg op) fun neg => some (.beq neg x y)
    | .pointer _ => withO (eqNeg op) fun neg => some (.peq neg x y)
    | .slice _ => withO (eqNeg op) fun neg => when_ (isNilSl Y) (some (.slNil neg x))
    | .interface _ => withO (eqNeg op) fun neg => when_ (isNilI Y) (some (.ifNil neg x))
    | .struct _ => withO (eqNeg op) fun neg => withO (fieldsEq P (P.fieldsOf xT).toList) fun r => when_ (!P.stoodInHeld xT && !P.eqGuardType P.depth xT) (some (.st neg r x y))
    | .array m e => withO (eqNeg op) fun neg => withO (P.underlying e) fun de => match de with
      | .int k => withO (P.info? e) fun _ => when_ (Nat.beq (P.cellsOf e) 1 && !P.eqGuardType P.depth xT) (some (.ar neg m k x y))
      | .array n' e2 => withO (P.underlying e2) fun de2 => withO (P.info? e) fun _ => withO (P.info? e2) fun _ => match de2 with
        | .int k => when_ (Nat.beq (P.cellsOf e) n' && (Nat.beq (P.cellsOf e2) 1 && !P.eqGuardType P.depth xT)) (some (.ar2 neg m n' k x y))
        | _ => none
      | _ => none
    | _ => none
def allLt (m : Nat) : List (Nat × Operand) → Bool
  | [] => true
  | p :: r => Nat.blt p.1 m && allLt m r
def isByteT (P : Program) (e : TypeId) : Bool := match P.underlying e with
  | some (.int k) => kEq k .u8
  | _ => false
def compileOp (P : Program) (o : Oper) : Option LOp :=
  match o.op with
  | .move x => withO (compileOpd x) fun x => some (.move x)
  | .assign x => withO (compileOpd x) fun x => some (.move x)
  | .pick c x y => withO (compileOpd c) fun c => withO (compileOpd x) fun x => withO (compileOpd y) fun y => some (.pick c x y)
  | .alloc ty => withZ P ty fun _ s => some (.alloc ty s)
  | .box ty x => withO (P.info? ty) fun i => withO (compileOpd x) fun x => some (.box ty i.size x)
  | .load ty x => withO (P.underlying ty) fun d => withO (P.info? ty) fun i => withO (compileOpd x) fun x => some (.load (if d.isRow then some i.size else none) x)
  | .store ty x y => withO (P.info? ty) fun i => withO (compileOpd x) fun x => withO (compileOpd y) fun y => some (.store i.size x y)
  | .nilCheck x => withO (compileOpd x) fun x => some (.nilc x)
  | .binOp op xT x y _ => compileBin P op xT x y
  | .unOp op _ x => withO (compileOpd x) fun x => some (.un op x)
  | .convert s d x => withO (P.underlying s) fun sd => withO (P.underlying d) fun dd => withO (compileOpd x) fun x => match dd, sd with
    | .int k, .int _ => some (.toInt k x)
    | .string, .string => some (.strStr x)
    | .string, .slice e => when_ (isByteT P e) (some (.toStr x))
    | .slice e, .string => when_ (isByteT P e) (some (.toBytes e x))
    | .slice e, .slice _ => when_ (Nat.beq s d && isByteT P e) (some (.slId x))
    | _, _ => none
  | .buildSlice ty m X => withO (P.underlying ty) fun d => match d with
    | .slice e => withZ P e fun i s => when_ (Nat.ble (m * i.size) 16777216 && !(Nat.beq i.size 0) && allLt m X.toList) (withO (compileParts X.toList) fun xs => some (.bsl i.size m e s xs))
    | _ => none
  | .build ty X => withO (P.underlying ty) fun d => match d with
    | .array m e => withZ P e fun i s => withO (P.info? ty) fun it => withO it.zero fun zt => when_ (flatEq (.rows m i.size (fun _ => s) .nil) zt.cells.toList && allLt m X.toList) (withO (compileParts X.toList) fun xs => some (.bar i.size m s xs))
    | .struct fs => withO (P.info? ty) fun it => withO it.zero fun zt => withO (zeroSegs P 30 ty) fun s => when_ (flatEq s zt.cells.toList && fs.toList.all (fun f => (P.info? f.type).isSome)) (withO (compileFields P fs X.toList) fun xs => some (.bst s xs))
    | _ => none
  | .makeInterface ty x => withO (P.underlying ty) fun d => when_ (notIface d) (withO (compileOpd x) fun x => some (.mkIface ty x))
  | .makeFunc fn first c => match fn with
    | .func f => when_ first.toList.isEmpty (withO (compileOpds c.toList) fun xs => some (.mkFunc f xs))
    | _ => none
  | .fieldAddr ty x k => withO (P.underlying ty) fun d => match d with
    | .struct fs => withO fs[k]? fun f => withO (P.info? f.type) fun i => when_ (!(Nat.beq i.size 0)) (withO (compileOpd x) fun x => some (.field f.offset x))
    | _ => none
  | .indexAddr ty x y => withO (P.underlying ty) fun d => match d with
    | .array len e => withO (P.info? e) fun i => withO (compileOpd x) fun x => withO (compileOpd y) fun y => some (.idxArr i.size len x y)
    | .slice e => withO (P.info? e) fun i => withO (compileOpd x) fun x => withO (compileOpd y) fun y => some (.idxSl i.size x y)
    | _ => none
  | .extract x i => withO (compileOpd x) fun x => some (.ext i x)
  | .index ty x y => withO (P.underlying ty) fun d => match d with
    | .string => withO (compileOpd x) fun x => withO (compileOpd y) fun y => some (.idxStr x y)
    | _ => none
  | .slice ty x lo hi mx => withO (P.underlying ty) fun d => withO (compileOpd x) fun X => match mx with
    | none => match d with
      | .string => withOpt lo fun l => withOpt hi fun u => some (.slStr X l u)
      | .slice e => withO (P.info? e) fun i => withOpt lo fun l => withOpt hi fun u => some (.slSl i.size X l u)
      | .array m e => withO (P.info? e) fun i => withOpt lo fun l => withOpt hi fun u => some (.slArr i.size m X l u)
      | .pointer q => withO (P.underlying q) fun qd => match qd with
        | .array m e => withO (P.info? e) fun i => withOpt lo fun l => withOpt hi fun u => some (.slArr i.size m X l u)
        | _ => none
      | _ => none
    | some m => match d with
      | .slice e => withO (P.info? e) fun i => match (lo.isNone || isInt0 lo) && isInt0 hi && isInt0 (some m) with
        | true => some (.slNone X)
        | false => match hi with
          | some h => withO (compileOpd h) fun H => withO (compileOpd m) fun M => withOpt lo fun l => some (.slSl3 i.size X l H M)
          | none => none
      | .array k e => withO (P.info? e) fun i => match hi with
        | some h => withO (compileOpd h) fun H => withO (compileOpd m) fun M => withOpt lo fun l => some (.slArr3 i.size k X l H M)
        | none => none
      | .pointer q => withO (P.underlying q) fun qd => match qd with
        | .array k e => withO (P.info? e) fun i => match hi with
          | some h => withO (compileOpd h) fun H => withO (compileOpd m) fun M => withOpt lo fun l => some (.slArr3 i.size k X l H M)
          | none => none
        | _ => none
      | _ => none
  | .makeSlice ty x y => withO (P.underlying ty) fun d => match d with
    | .slice e => withZ P e fun i s => withO (compileOpd x) fun x => withO (compileOpd y) fun y => some (.make i.size i.bytes e s x y)
    | _ => none
  | .call c => match c.callee with
    | .builtin b => compileB P b c.args.toList c.argTypes.toList
    | _ => none
  | .typeAssert x _ aT ok => match ok with
    | true => withO (P.underlying aT) fun d => when_ (notIface d) (withO (compileOpd x) fun x => some (.tyAs aT x))
    | false => none
  | _ => none
section
variable {T : Nat → Nat → Prop} {w0 : World} {ρ : Pl} {h : LHeap} {w : World} {t : List LVal} {a : Act} {Φ : LVal → List (Nat × Option LObj) → Option LObj → Prop} {P : Program} {n : Nat}
theorem opt_wp (ht : TSim ρ t a) {X : Option Operand} {K : Option LOpd → Option LOp} {r : LOp} (hx : withOpt X K = some r) : ∃ x, K x = some r ∧ ∀ {k : Option LVal → Rd}, (rdOpt x k).wp t h Φ → ∃ v, OptPV ρ v (X.map a.eval) ∧ (k v).wp t h Φ := by
  cases X with
  | none => exact ⟨none, hx, fun hw => ⟨none, trivial, hw⟩⟩
  | some X =>
    obtain ⟨x, h1, h2⟩ := withO_some hx
    refine ⟨some x, h2, fun hw => ?_⟩
    obtain ⟨v, h3, h4⟩ := opd_wp h1 ht hw
    exact ⟨some v, h3, h4⟩
theorem isInt0_spec {x : Option Operand} (h : isInt0 x = true) : ∃ k, x = some (.const (.int k 0)) := by
  unfold isInt0 at h
  split at h
  · rename_i k n
    have := eq_of_beq h
    subst this
    exact ⟨k, rfl⟩
  · cases h
theorem lo_spec {x : Option Operand} (h : x.isNone = true ∨ isInt0 x = true) : ∃ k, x = none ∨ x = some (.const (.int k 0)) := by
  rcases h with h | h
  · exact ⟨.i64, .inl (Option.isNone_iff_eq_none.1 h)⟩
  · obtain ⟨k, e⟩ := isInt0_spec h
    exact ⟨k, .inr e⟩
theorem builtin_sound {o : Oper} {lo : LOp} {b : Builtin} {c : Call} (ho : o.op = .call c) (hb : c.callee = .builtin b) (hc : compileB P b c.args.toList c.argTypes.toList = some lo) (hs : Sim T w0 ρ h w) (hn : ρ n = none) (hh : hget h n = none) (ht : TSim ρ t a) (hw : (opRd n lo).wp t h Φ) : Res P o a w T w0 ρ h n Φ := by
  obtain ⟨callee, ⟨args⟩, ⟨ts⟩⟩ := c
  simp only at hb hc
  subst hb
  unfold compileB at hc
  split at hc
  · split at hc
    · skip
      obtain ⟨ty, h1, hc⟩ := withO_some hc
      obtain ⟨d, h2, hc⟩ := withO_some hc
      obtain ⟨x, h3, hc⟩ := withO_some hc
      split at hc
      · cases hc
        obtain ⟨v, hv, hw⟩ := opd_wp h3 ht hw
        exact lenStr_sound _ _ _ o ho (by simpa using h1) h2 hs hv hw
      · cases hc
        obtain ⟨v, hv, hw⟩ := opd_wp h3 ht hw
        exact lenSl_sound _ _ _ _ o ho (by simpa using h1) h2 hs hv hw
      · cases hc
        exact lenArr_sound _ _ _ _ _ o ho (by simpa using h1) h2 hs (v := .undef) hw
      · cases hc
    · cases hc
  · split at hc
    · split at hc
      · skip
        obtain ⟨d, h1, hc⟩ := withO_some hc
        obtain ⟨dx, h2, hc⟩ := withO_some hc
        split at hc
        · split at hc
          · obtain ⟨i, z, s, h3, h4, h5, h6, hc⟩ := withZ_some hc
            obtain ⟨h7, hc⟩ := when_some hc
            obtain ⟨x, h8, hc⟩ := withO_some hc
            obtain ⟨y, h9, hc⟩ := withO_some hc
            cases hc
            obtain ⟨v, hv, hw⟩ := opd_wp h8 ht hw
            obtain ⟨u, hu, hw⟩ := opd_wp h9 ht hw
            exact appZ_sound _ _ _ _ _ _ i z s o ho h1 h2 h3 h4 h5 h6 (by intro e; simp [e] at h7) hs hn hh hv hu hw
          · obtain ⟨i, z, s, h3, h4, h5, h6, hc⟩ := withZ_some hc
            obtain ⟨h7, hc⟩ := when_some hc
            obtain ⟨x, h8, hc⟩ := withO_some hc
            obtain ⟨y, h9, hc⟩ := withO_some hc
            cases hc
            obtain ⟨v, hv, hw⟩ := opd_wp h8 ht hw
            obtain ⟨u, hu, hw⟩ := opd_wp h9 ht hw
            simp only [Bool.and_eq_true] at h7
            refine append_sound _ _ _ _ _ _ i z o ho h1 h2 ?_ h3 h4 h6 (by intro e; simp [e] at h7) hs hn hh hv hu hw
            obtain ⟨h7, _⟩ := h7
            split at h7
            · exact .inl rfl
            · exact .inr ⟨_, rfl⟩
            · cases h7
        · cases hc
      · cases hc
    · cases hc
  · split at hc
    · split at hc
      · obtain ⟨d, h1, hc⟩ := withO_some hc
        split at hc
        · obtain ⟨i, h2, hc⟩ := withO_some hc
          obtain ⟨x, h3, hc⟩ := withO_some hc
          obtain ⟨y, h4, hc⟩ := withO_some hc
          cases hc
          obtain ⟨v, hv, hw⟩ := opd_wp h3 ht hw
          obtain ⟨u, hu, hw⟩ := opd_wp h4 ht hw
          exact copy_sound _ _ _ _ _ i o ho h1 h2 hs hv hu hw
        · cases hc
      · cases hc
    · cases hc
  · split at hc
    · obtain ⟨x, h3, hc⟩ := withO_some hc
      obtain ⟨y, h4, hc⟩ := withO_some hc
      cases hc
      obtain ⟨v, hv, hw⟩ := opd_wp h3 ht hw
      obtain ⟨u, hu, hw⟩ := opd_wp h4 ht hw
      exact mm_sound true _ _ _ o ho hs hv hu hw
    · cases hc
  · split at hc
    · obtain ⟨x, h3, hc⟩ := withO_some hc
      obtain ⟨y, h4, hc⟩ := withO_some hc
      cases hc
      obtain ⟨v, hv, hw⟩ := opd_wp h3 ht hw
      obtain ⟨u, hu, hw⟩ := opd_wp h4 ht hw
      exact mm_sound false _ _ _ o ho hs hv hu hw
    · cases hc
  · split at hc
    · split at hc
      · obtain ⟨d, h1, hc⟩ := withO_some hc
        split at hc
        · obtain ⟨i, z, s, h3, h4, h5, h6, hc⟩ := withZ_some hc
          obtain ⟨x, h7, hc⟩ := withO_some hc
          cases hc
          obtain ⟨v, hv, hw⟩ := opd_wp h7 ht hw
          exact clear_sound _ _ _ i z s o ho h1 h3 h4 h5 h6 hs hv hw
        · cases hc
      · cases hc
    · cases hc
  · cases hc
theorem shiftBy_spec {k : IntKind} {Y : Operand} {c : Nat} (h : shiftBy k Y = some c) : ∃ k', Y = .const (.int k' (c : Int)) ∧ c ≤ k.bits := by
  unfold shiftBy at h
  split at h
  · split at h
    · obtain ⟨h1, h⟩ := when_some h
      cases h
      exact ⟨_, rfl, Nat.le_of_ble_eq_true h1⟩
    · cases h
  · cases h
theorem eqNeg_spec {op : BinOp} {neg : Bool} (h : eqNeg op = some neg) : op = eqOp neg := by
  cases op <;> simp [eqNeg] at h <;> subst h <;> rfl
theorem isLeft_spec {op : BinOp} {l : Bool} (h : isLeft op = some l) : op = if l then .shl else .shr := by
  cases op <;> simp [isLeft] at h <;> subst h <;> rfl
theorem allLt_spec {m : Nat} : ∀ (l : List (Nat × Operand)), allLt m l = true → ∀ p ∈ l, p.1 < m
  | [], _, p, hp => by cases hp
  | x :: r, h, p, hp => by
    simp only [allLt, Bool.and_eq_true] at h
    have h1 : x.1 < m := by
      have := Nat.le_of_ble_eq_true h.1
      omega
    rcases List.mem_cons.1 hp with rfl | hp
    · exact h1
    · exact allLt_spec r h.2 p hp
theorem isByteT_spec {e : TypeId} (h : isByteT P e = true) : P.underlying e = some (.int .u8) := by
  unfold isByteT at h
  split at h
  · rename_i k hk
    rw [hk, kEq_spec h]
  · cases h
theorem underlying_fields {t : TypeId} {fs : Array Field} (h : P.underlying t = some (.struct fs)) : P.underlying t = some (.struct (P.fieldsOf t)) := by
  unfold Program.fieldsOf
  rw [h]
theorem binop_sound {o : Oper} {lo : LOp} {op : BinOp} {xT yT : TypeId} {X Y : Operand} (ho : o.op = .binOp op xT X Y yT) (hc : compileBin P op xT X Y = some lo) (hs : Sim T w0 ρ h w) (ht : TSim ρ t a) (hw : (opRd n lo).wp t h Φ) : Res P o a w T w0 ρ h n Φ := by
  obtain ⟨d, h1, hc⟩ := withO_some hc
  obtain ⟨x, h2, hc⟩ := withO_some hc
  obtain ⟨y, h3, hc⟩ := withO_some hc
  have two : ∀ {K : LVal → LVal → Rd}, (x.rd fun v => y.rd fun u => K v u).wp t h Φ → ∃ v u, PV ρ v (a.eval X) ∧ PV ρ u (a.eval Y) ∧ (K v u).wp t h Φ := by
    intro K hw
    obtain ⟨v, hv, hw⟩ := opd_wp h2 ht hw
    obtain ⟨u, hu, hw⟩ := opd_wp h3 ht hw
    exact ⟨v, u, hv, hu, hw⟩
  have plain : lo = .bin op x y → Res P o a w T w0 ρ h n Φ := by
    rintro rfl
    obtain ⟨v, u, hv, hu, hw⟩ := two hw
    exact bin_sound _ _ _ _ _ o ho hs hv hu hw
  split at hc
  · split at hc
    · rename_i left hl
      split at hc
      · rename_i c hsh
        cases hc
        obtain ⟨k', rfl, hb⟩ := shiftBy_spec hsh
        obtain ⟨v, hv, hw⟩ := opd_wp h2 ht hw
        exact shc_sound op left (isLeft_spec hl) xT yT X k' c _ o ho hb hs hv hw
      · cases hc; exact plain rfl
    · cases hc; exact plain rfl
  · cases hc; exact plain rfl
  · obtain ⟨neg, h4, hc⟩ := withO_some hc
    cases hc
    have h4 := eqNeg_spec h4
    subst h4
    obtain ⟨v, u, hv, hu, hw⟩ := two hw
    exact beq_sound neg _ _ _ _ o ho h1 hs hv hu hw
  · obtain ⟨neg, h4, hc⟩ := withO_some hc
    cases hc
    have h4 := eqNeg_spec h4
    subst h4
    obtain ⟨v, u, hv, hu, hw⟩ := two hw
    exact peq_sound neg _ _ _ _ _ o ho h1 hs hv hu hw
  · obtain ⟨neg, h4, hc⟩ := withO_some hc
    obtain ⟨h5, hc⟩ := when_some hc
    cases hc
    have h4 := eqNeg_spec h4
    subst h4
    obtain ⟨v, hv, hw⟩ := opd_wp h2 ht hw
    have hY : Y = .const (.slice none 0 0) := by
      unfold isNilSl at h5
      split at h5
      · rfl
      · cases h5
    subst hY
    exact slNil_sound neg _ _ _ _ o ho h1 hs hv hw
  · obtain ⟨neg, h4, hc⟩ := withO_some hc
    obtain ⟨h5, hc⟩ := when_some hc
    cases hc
    have h4 := eqNeg_spec h4
    subst h4
    obtain ⟨v, hv, hw⟩ := opd_wp h2 ht hw
    have hY : Y = .const .nilIface := by
      unfold isNilI at h5
      split at h5
      · rfl
      · cases h5
    subst hY
    exact ifNil_sound neg _ _ _ _ o ho h1 hs hv hw
  · obtain ⟨neg, h4, hc⟩ := withO_some hc
    obtain ⟨r, h5, hc⟩ := withO_some hc
    obtain ⟨h6, hc⟩ := when_some hc
    cases hc
    have h4 := eqNeg_spec h4
    subst h4
    simp only [Bool.and_eq_true, Bool.not_eq_true'] at h6
    obtain ⟨v, u, hv, hu, hw⟩ := two hw
    exact st_sound neg _ _ _ _ o ho (underlying_fields h1) h6.1 h6.2 h5 hs hv hu hw
  · obtain ⟨neg, h4, hc⟩ := withO_some hc
    obtain ⟨de, h5, hc⟩ := withO_some hc
    split at hc
    · obtain ⟨i, h6, hc⟩ := withO_some hc
      obtain ⟨h7, hc⟩ := when_some hc
      cases hc
      have h4 := eqNeg_spec h4
      subst h4
      simp only [Bool.and_eq_true, Bool.not_eq_true'] at h7
      obtain ⟨v, u, hv, hu, hw⟩ := two hw
      exact ar_sound neg _ _ _ _ _ i _ _ o ho h1 h5 h6 (Nat.eq_of_beq_eq_true h7.1) h7.2 hs hv hu hw
    · obtain ⟨de2, h6, hc⟩ := withO_some hc
      obtain ⟨i1, h7, hc⟩ := withO_some hc
      obtain ⟨i2, h8, hc⟩ := withO_some hc
      split at hc
      · obtain ⟨h9, hc⟩ := when_some hc
        cases hc
        have h4 := eqNeg_spec h4
        subst h4
        simp only [Bool.and_eq_true, Bool.not_eq_true'] at h9
        obtain ⟨v, u, hv, hu, hw⟩ := two hw
        exact ar2_sound neg _ _ _ _ _ _ _ i1 i2 _ _ o ho h1 h5 h6 h7 h8 (Nat.eq_of_beq_eq_true h9.1) (Nat.eq_of_beq_eq_true h9.2.1) h9.2.2 hs hv hu hw
      · cases hc
    · cases hc
  · cases hc
theorem op_sound {o : Oper} {lo : LOp} (hc : compileOp P o = some lo) (hs : Sim T w0 ρ h w) (hn : ρ n = none) (hh : hget h n = none) (ht : TSim ρ t a) (hw : (opRd n lo).wp t h Φ) : Res P o a w T w0 ρ h n Φ := by
  unfold compileOp at hc
  split at hc
  case h_1 ho =>
    obtain ⟨x, h1, hc⟩ := withO_some hc
    cases hc
    obtain ⟨v, hv, hw⟩ := opd_wp h1 ht hw
    exact move_sound _ o (.inl ho) hs hv hw
  case h_2 ho =>
    obtain ⟨x, h1, hc⟩ := withO_some hc
    cases hc
    obtain ⟨v, hv, hw⟩ := opd_wp h1 ht hw
    exact move_sound _ o (.inr ho) hs hv hw
  case h_3 ho =>
    obtain ⟨c, h1, hc⟩ := withO_some hc
    obtain ⟨x, h2, hc⟩ := withO_some hc
    obtain ⟨y, h3, hc⟩ := withO_some hc
    cases hc
    obtain ⟨v, hv, hw⟩ := opd_wp h1 ht hw
    exact pick_sound _ _ _ o ho hs ht hv h2 h3 hw
  case h_4 ho =>
    obtain ⟨i, z, s, h1, h2, h3, h4, hc⟩ := withZ_some hc
    cases hc
    exact alloc_sound _ o ho i z h1 h2 s h3 hs hn hh hw
  case h_5 ho =>
    obtain ⟨i, h1, hc⟩ := withO_some hc
    obtain ⟨x, h2, hc⟩ := withO_some hc
    cases hc
    obtain ⟨v, hv, hw⟩ := opd_wp h2 ht hw
    exact box_sound _ _ o ho _ hs hn hh hv hw
  case h_6 ho =>
    obtain ⟨d, h1, hc⟩ := withO_some hc
    obtain ⟨i, h2, hc⟩ := withO_some hc
    obtain ⟨x, h3, hc⟩ := withO_some hc
    cases hc
    obtain ⟨v, hv, hw⟩ := opd_wp h3 ht hw
    exact load_sound _ _ o ho d i h1 h2 hs (deGl_PV hs hv) hw
  case h_7 ho =>
    obtain ⟨i, h2, hc⟩ := withO_some hc
    obtain ⟨x, h3, hc⟩ := withO_some hc
    obtain ⟨y, h4, hc⟩ := withO_some hc
    cases hc
    obtain ⟨v, hv, hw⟩ := opd_wp h3 ht hw
    obtain ⟨u, hu, hw⟩ := opd_wp h4 ht hw
    exact store_sound _ _ _ o ho i h2 hs hv hu hw
  case h_8 ho =>
    obtain ⟨x, h1, hc⟩ := withO_some hc
    cases hc
    obtain ⟨v, hv, hw⟩ := opd_wp h1 ht hw
    exact nil_sound _ o ho hs hv hw
  case h_9 ho => exact binop_sound ho hc hs ht hw
  case h_10 ho =>
    obtain ⟨x, h1, hc⟩ := withO_some hc
    cases hc
    obtain ⟨v, hv, hw⟩ := opd_wp h1 ht hw
    exact un_sound _ _ _ o ho hs hv hw
  case h_11 ho =>
    obtain ⟨sd, h1, hc⟩ := withO_some hc
    obtain ⟨dd, h2, hc⟩ := withO_some hc
    obtain ⟨x, h3, hc⟩ := withO_some hc
    split at hc
    · cases hc
      obtain ⟨v, hv, hw⟩ := opd_wp h3 ht hw
      exact toInt_sound _ _ _ o ho _ _ h1 h2 hs hv hw
    · cases hc
      obtain ⟨v, hv, hw⟩ := opd_wp h3 ht hw
      exact strStr_sound _ _ _ o ho _ h1 h2 hs hv hw
    · obtain ⟨h4, hc⟩ := when_some hc
      cases hc
      obtain ⟨v, hv, hw⟩ := opd_wp h3 ht hw
      exact toStr_sound _ _ _ o ho _ h1 h2 (isByteT_spec h4) hs hv hw
    · obtain ⟨h4, hc⟩ := when_some hc
      cases hc
      obtain ⟨v, hv, hw⟩ := opd_wp h3 ht hw
      exact toBytes_sound _ _ _ o ho _ h1 h2 (isByteT_spec h4) hs hn hh hv hw
    · obtain ⟨h4, hc⟩ := when_some hc
      cases hc
      rw [Bool.and_eq_true] at h4
      have h5 := Nat.eq_of_beq_eq_true h4.1
      subst h5
      obtain ⟨v, hv, hw⟩ := opd_wp h3 ht hw
      exact slId_sound _ _ o ho _ h2 (isByteT_spec h4.2) hs hv hw
    · cases hc
  case h_12 ho =>
    obtain ⟨d, h1, hc⟩ := withO_some hc
    split at hc
    · obtain ⟨i, z, s, h2, h3, h4, h5, hc⟩ := withZ_some hc
      obtain ⟨h6, hc⟩ := when_some hc
      obtain ⟨xs, h7, hc⟩ := withO_some hc
      cases hc
      simp only [Bool.and_eq_true, Bool.not_eq_true'] at h6
      exact buildSl_sound _ _ _ o ho _ i z s h1 h2 h3 h4 h5 (Nat.le_of_ble_eq_true h6.1.1) (by intro e; simp [e] at h6) (allLt_spec _ h6.2) h7 hs ht hn hh hw
    · cases hc
  case h_13 ho =>
    obtain ⟨d, h1, hc⟩ := withO_some hc
    split at hc
    · obtain ⟨i, z, s, h2, h3, h4, h5, hc⟩ := withZ_some hc
      obtain ⟨it, h6, hc⟩ := withO_some hc
      obtain ⟨zt, h7, hc⟩ := withO_some hc
      obtain ⟨h8, hc⟩ := when_some hc
      obtain ⟨xs, h9, hc⟩ := withO_some hc
      cases hc
      simp only [Bool.and_eq_true] at h8
      exact buildArr_sound _ _ _ o ho _ i it z zt s h1 h2 h3 h4 h5 h6 h7 h8.1 (allLt_spec _ h8.2) h9 hs ht hw
    · obtain ⟨it, h6, hc⟩ := withO_some hc
      obtain ⟨zt, h7, hc⟩ := withO_some hc
      obtain ⟨s, _, hc⟩ := withO_some hc
      obtain ⟨h8, hc⟩ := when_some hc
      obtain ⟨xs, h9, hc⟩ := withO_some hc
      cases hc
      simp only [Bool.and_eq_true] at h8
      exact buildSt_sound _ _ o ho _ it zt s h1 h6 h7 h8.1 (fun f hf => List.all_eq_true.1 h8.2 f hf) h9 hs ht hw
    · cases hc
  case h_14 ho =>
    obtain ⟨d, h1, hc⟩ := withO_some hc
    obtain ⟨h2, hc⟩ := when_some hc
    obtain ⟨x, h3, hc⟩ := withO_some hc
    cases hc
    obtain ⟨v, hv, hw⟩ := opd_wp h3 ht hw
    exact iface_sound _ _ o ho d h1 h2 hs hv hw
  case h_15 ho =>
    split at hc
    · obtain ⟨h0, hc⟩ := when_some hc
      obtain ⟨xs, h1, hc⟩ := withO_some hc
      cases hc
      obtain ⟨vs, hv, hw⟩ := opds_wp ht h1 hw
      exact func_sound _ _ o (by rw [ho]; congr 1; simpa using h0) hs hv hw
    · cases hc
  case h_16 ho =>
    obtain ⟨d, h1, hc⟩ := withO_some hc
    split at hc
    · obtain ⟨f, h2, hc⟩ := withO_some hc
      obtain ⟨i, h3, hc⟩ := withO_some hc
      obtain ⟨h4, hc⟩ := when_some hc
      obtain ⟨x, h5, hc⟩ := withO_some hc
      cases hc
      obtain ⟨v, hv, hw⟩ := opd_wp h5 ht hw
      exact field_sound _ _ _ o ho _ f i h1 h2 h3 (by intro e; simp [e] at h4) hs (deGl_PV hs hv) hw
    · cases hc
  case h_17 ho =>
    obtain ⟨d, h1, hc⟩ := withO_some hc
    split at hc
    · obtain ⟨i, h3, hc⟩ := withO_some hc
      obtain ⟨x, h4, hc⟩ := withO_some hc
      obtain ⟨y, h5, hc⟩ := withO_some hc
      cases hc
      obtain ⟨v, hv, hw⟩ := opd_wp h4 ht hw
      obtain ⟨u, hu, hw⟩ := opd_wp h5 ht hw
      exact idxArr_sound _ _ _ o ho _ _ i h1 h3 hs (deGl_PV hs hv) hu hw
    · obtain ⟨i, h3, hc⟩ := withO_some hc
      obtain ⟨x, h4, hc⟩ := withO_some hc
      obtain ⟨y, h5, hc⟩ := withO_some hc
      cases hc
      obtain ⟨v, hv, hw⟩ := opd_wp h4 ht hw
      obtain ⟨u, hu, hw⟩ := opd_wp h5 ht hw
      exact idxSl_sound _ _ _ o ho _ i h1 h3 hs hv hu hw
    · cases hc
  case h_18 ho =>
    obtain ⟨x, h1, hc⟩ := withO_some hc
    cases hc
    obtain ⟨v, hv, hw⟩ := opd_wp h1 ht hw
    exact ext_sound _ _ o ho hs hv hw
  case h_19 ho =>
    obtain ⟨d, h1, hc⟩ := withO_some hc
    split at hc
    · obtain ⟨x, h4, hc⟩ := withO_some hc
      obtain ⟨y, h5, hc⟩ := withO_some hc
      cases hc
      obtain ⟨v, hv, hw⟩ := opd_wp h4 ht hw
      obtain ⟨u, hu, hw⟩ := opd_wp h5 ht hw
      exact idxStr_sound _ _ _ o ho h1 hs hv hu hw
    · cases hc
  case h_20 ho =>
    obtain ⟨d, h1, hc⟩ := withO_some hc
    obtain ⟨x, h2, hc⟩ := withO_some hc
    split at hc
    · split at hc
      · obtain ⟨l, hc, el⟩ := opt_wp (h := h) (Φ := Φ) ht hc
        obtain ⟨u, hc, eu⟩ := opt_wp (h := h) (Φ := Φ) ht hc
        cases hc
        obtain ⟨v, hv, hw⟩ := opd_wp h2 ht hw
        obtain ⟨lv, hlv, hw⟩ := el hw
        obtain ⟨uv, huv, hw⟩ := eu hw
        exact slStr_sound _ _ _ _ o ho h1 hs hv hlv huv hw
      · obtain ⟨i, h3, hc⟩ := withO_some hc
        obtain ⟨l, hc, el⟩ := opt_wp (h := h) (Φ := Φ) ht hc
        obtain ⟨u, hc, eu⟩ := opt_wp (h := h) (Φ := Φ) ht hc
        cases hc
        obtain ⟨v, hv, hw⟩ := opd_wp h2 ht hw
        obtain ⟨lv, hlv, hw⟩ := el hw
        obtain ⟨uv, huv, hw⟩ := eu hw
        exact slSl_sound _ _ _ _ o ho _ i h1 h3 hs hv hlv huv hw
      · obtain ⟨i, h3, hc⟩ := withO_some hc
        obtain ⟨l, hc, el⟩ := opt_wp (h := h) (Φ := Φ) ht hc
        obtain ⟨u, hc, eu⟩ := opt_wp (h := h) (Φ := Φ) ht hc
        cases hc
        obtain ⟨v, hv, hw⟩ := opd_wp h2 ht hw
        obtain ⟨lv, hlv, hw⟩ := el hw
        obtain ⟨uv, huv, hw⟩ := eu hw
        exact slArr_sound _ _ _ _ o ho _ _ i (.inl h1) h3 hs hv hlv huv hw
      · obtain ⟨qd, h4, hc⟩ := withO_some hc
        split at hc
        · obtain ⟨i, h3, hc⟩ := withO_some hc
          obtain ⟨l, hc, el⟩ := opt_wp (h := h) (Φ := Φ) ht hc
          obtain ⟨u, hc, eu⟩ := opt_wp (h := h) (Φ := Φ) ht hc
          cases hc
          obtain ⟨v, hv, hw⟩ := opd_wp h2 ht hw
          obtain ⟨lv, hlv, hw⟩ := el hw
          obtain ⟨uv, huv, hw⟩ := eu hw
          exact slArr_sound _ _ _ _ o ho _ _ i (.inr ⟨_, h1, h4⟩) h3 hs hv hlv huv hw
        · cases hc
      · cases hc
    · split at hc
      · obtain ⟨i, h3, hc⟩ := withO_some hc
        split at hc
        case h_2 =>
          split at hc
          · obtain ⟨H, h5, hc⟩ := withO_some hc
            obtain ⟨M, h6, hc⟩ := withO_some hc
            obtain ⟨l, hc, el⟩ := opt_wp (h := h) (Φ := Φ) ht hc
            cases hc
            obtain ⟨v, hv, hw⟩ := opd_wp h2 ht hw
            obtain ⟨lv, hlv, hw⟩ := el hw
            obtain ⟨uv, huv, hw⟩ := opd_wp h5 ht hw
            obtain ⟨mv, hmv, hw⟩ := opd_wp h6 ht hw
            exact slSl3_sound _ _ _ _ _ o ho _ i h1 h3 hs hv hlv huv hmv hw
          · cases hc
        rename_i h4
        cases hc
        obtain ⟨v, hv, hw⟩ := opd_wp h2 ht hw
        simp only [Bool.and_eq_true, Bool.or_eq_true] at h4
        obtain ⟨⟨h5, h6⟩, h7⟩ := h4
        obtain ⟨k2, rfl⟩ := isInt0_spec h6
        obtain ⟨k3, h7⟩ := isInt0_spec h7
        cases h7
        obtain ⟨k1, hL⟩ := lo_spec h5
        exact slNone_sound _ _ k1 k2 k3 _ hL o ho _ i h1 h3 hs hv hw
      · obtain ⟨i, h3, hc⟩ := withO_some hc
        split at hc
        · obtain ⟨H, h5, hc⟩ := withO_some hc
          obtain ⟨M, h6, hc⟩ := withO_some hc
          obtain ⟨l, hc, el⟩ := opt_wp (h := h) (Φ := Φ) ht hc
          cases hc
          obtain ⟨v, hv, hw⟩ := opd_wp h2 ht hw
          obtain ⟨lv, hlv, hw⟩ := el hw
          obtain ⟨uv, huv, hw⟩ := opd_wp h5 ht hw
          obtain ⟨mv, hmv, hw⟩ := opd_wp h6 ht hw
          exact slArr3_sound _ _ _ _ _ o ho _ _ i (.inl h1) h3 hs hv hlv huv hmv hw
        · cases hc
      · obtain ⟨qd, h4, hc⟩ := withO_some hc
        split at hc
        · obtain ⟨i, h3, hc⟩ := withO_some hc
          split at hc
          · obtain ⟨H, h5, hc⟩ := withO_some hc
            obtain ⟨M, h6, hc⟩ := withO_some hc
            obtain ⟨l, hc, el⟩ := opt_wp (h := h) (Φ := Φ) ht hc
            cases hc
            obtain ⟨v, hv, hw⟩ := opd_wp h2 ht hw
            obtain ⟨lv, hlv, hw⟩ := el hw
            obtain ⟨uv, huv, hw⟩ := opd_wp h5 ht hw
            obtain ⟨mv, hmv, hw⟩ := opd_wp h6 ht hw
            exact slArr3_sound _ _ _ _ _ o ho _ _ i (.inr ⟨_, h1, h4⟩) h3 hs hv hlv huv hmv hw
          · cases hc
        · cases hc
      · cases hc
  case h_21 ho =>
    obtain ⟨d, h1, hc⟩ := withO_some hc
    split at hc
    · obtain ⟨i, z, s, h2, h3, h4, h5, hc⟩ := withZ_some hc
      obtain ⟨x, h6, hc⟩ := withO_some hc
      obtain ⟨y, h7, hc⟩ := withO_some hc
      cases hc
      obtain ⟨v, hv, hw⟩ := opd_wp h6 ht hw
      obtain ⟨u, hu, hw⟩ := opd_wp h7 ht hw
      exact make_sound _ _ _ o ho _ i z h1 h2 h3 s h4 h5 hs hn hh hv hu hw
    · cases hc
  case h_22 ho =>
    split at hc
    · rename_i b hb
      exact builtin_sound ho hb hc hs hn hh ht hw
    · cases hc
  case h_23 ho =>
    split at hc
    · obtain ⟨d, h1, hc⟩ := withO_some hc
      obtain ⟨h2, hc⟩ := when_some hc
      obtain ⟨x, h3, hc⟩ := withO_some hc
      cases hc
      obtain ⟨v, hv, hw⟩ := opd_wp h3 ht hw
      exact tyAs_sound _ _ d _ o ho h1 h2 hs hv hw
    · cases hc
  case h_24 => cases hc
def compileAt : Nat → List Operand → Option LOp
  | 0, [x] => withO (compileOpd x) fun x => some (.atLoad x)
  | 1, [x, y] => withO (compileOpd x) fun x => withO (compileOpd y) fun y => some (.atAdd x y)
  | 2, [x, y] => withO (compileOpd x) fun x => withO (compileOpd y) fun y => some (.atStore x y)
  | _, _ => none
theorem at_sound {o : Oper} {c : Call} {f : FuncId} {k : Nat} {lo : LOp} (ho : o.op = .call c) (hcal : c.callee = .value (.func f)) (hk : atomicOf P f = some k) (h1 : compileAt k c.args.toList = some lo) (hs : Sim T w0 ρ h w) (ht : TSim ρ t a) (hw : (opRd n lo).wp t h Φ) : Res P o a w T w0 ρ h n Φ := by
  obtain ⟨callee, ⟨args⟩, ts⟩ := c
  simp only at hcal h1
  subst hcal
  unfold compileAt at h1
  split at h1
  · obtain ⟨x, h2, h1⟩ := withO_some h1
    cases h1
    obtain ⟨v, hv, hw⟩ := opd_wp h2 ht hw
    exact atLoad_sound ho hk hs hv hw
  · obtain ⟨x, h2, h1⟩ := withO_some h1
    obtain ⟨y, h3, h1⟩ := withO_some h1
    cases h1
    obtain ⟨v, hv, hw⟩ := opd_wp h2 ht hw
    obtain ⟨u, hu, hw⟩ := opd_wp h3 ht hw
    exact atAdd_sound ho hk hs hv hu hw
  · obtain ⟨x, h2, h1⟩ := withO_some h1
    obtain ⟨y, h3, h1⟩ := withO_some h1
    cases h1
    obtain ⟨v, hv, hw⟩ := opd_wp h2 ht hw
    obtain ⟨u, hu, hw⟩ := opd_wp h3 ht hw
    exact atStore_sound ho hk hs hv hu hw
  · cases h1
end
end Go.Proofs.Ytilmfhpoiejmfaa.Lh
