/-
  Texts AbsA, AbsB of this proof, joined.
-/
import Derived.Calls
import Derived.Tactics
import Derived.LoopN
import Derived.Laws.AppendOwn
import Derived.Deep.Quiet
import Derived.StillTail
import Derived.Lib.Bytealg
set_option linter.unusedVariables false
namespace Go.Abs
structure MT where
 k:TypeId
 e:TypeId
 ka:Bool
 ea:Bool
 deriving DecidableEq
inductive K where
 | int (k:IntKind) | bool | str | sl (e:TypeId) | mp (m:MT) | oth
 deriving DecidableEq
inductive V where
 | i (n:Int) | b (x:Bool) | s (x:ByteArray) | l (xs:List (List V))
namespace V
def none:V:=.i 0
def int:V→Int | .i n=>n | _=>0
def bool:V→Bool | .b x=>x | _=>false
def str:V→ByteArray | .s x=>x | _=>⟨#[]⟩
def list:V→List (List V) | .l xs=>xs | _=>[]
end V
inductive Ref where
 | loc (i:Nat) | own (i:Nat)
 deriving DecidableEq
inductive D where
 | v (k:K) (x:V)
 | nil
 | agg (cs:List D)
 | tup (vs:List D)
 | ptr (r:Ref) (off:Nat)
 | elt (e:TypeId) (cs:List V) (off:Nat)
 | relt (r:Ref) (e:TypeId) (n i off:Nat)
 | osl (r:Ref) (n:Nat)
 | mp (r:Ref)
 | fn (f:FuncId) (caps:List D)
 | ln (n:Nat)   -- a slice of which its length alone is known
 | skip
 | undef
inductive Obj where
 | cells (cs:List D)
 | row (e:TypeId) (xs:List (List V))
 | map (m:MT) (xs:List (List V))
 | iter (m:MT) (x:D) (n:Nat) (seen:List Nat)
 | dead
abbrev Heap:=List Obj
def Obj.isPt:Obj→Bool | .cells _=>true | .iter _ _ _ _=>true | _=>false
def Obj.cs:Obj→List D | .cells cs=>cs | _=>[]
def Obj.xs:Obj→List (List V) | .row _ xs=>xs | .map _ xs=>xs | _=>[]
structure St where
 tmps:List D
 loc:List Obj
def St.put (st:St) (d:Option Nat) (x:D):St :=
 match d with
 | some d=>⟨st.tmps.set d x,st.loc⟩
 | none=>st
structure TI where
 t:TypeId
 agg:Bool
 lf:List K
 flds:List (Nat×TypeId)
 el:Option TypeId
 kd:K
 ar:Option (Nat×TypeId)
 mp:Option MT
abbrev Tab:=List TI
def Tab.get (T:Tab) (t:TypeId):TI :=
 match T with
 | []=>⟨t,false,[],[],none,.oth,none,none⟩
 | x::r=>match Nat.beq x.t t with | true=>x | false=>Tab.get r t
def hb:Unit:=()
def hbb:Unit:=hb
def iffC (p q:Prop) (b:Bool):Prop:=let _:=hbb; match b with | true=>p | false=>q
abbrev iff (b:Bool) (p q:Prop):Prop:=iffC p q b
def D.V:D→V | .v _ x=>x | _=>V.none
def D.kind:D→K | .v k _=>k | _=>.oth
def D.cells:D→List D | .agg cs=>cs | d=>[d]
def D.isCell:D→Bool
 | .v _ _=>true | .nil=>true | .ptr _ _=>true | .elt _ _ _=>true | .relt _ _ _ _ _=>true | .osl _ _=>true | .mp _=>true | .fn _ _=>true | .ln _=>true | _=>false
def D.len:D→Nat | .osl _ n=>n | _=>0
def D.parts:D→List D | .tup ds=>ds | _=>[]
inductive Sh where
 | v (k:K) | nil | same (k:Nat) (kd:K) | fn (f:FuncId) (es:List TypeId)
def D.refOf:D→Ref | .osl r _=>r | .mp r=>r | .ptr r _=>r | _=>.own 0
def D.sameAs (kd:K) (d:D):D→D
 | .osl r _=>.osl r d.len
 | .mp r=>.mp r
 | .ptr r o=>.ptr r o
 | _=>.v kd d.V
def D.capsOf:D→List D | .fn _ cs=>cs | _=>[]
def D.eltOf:D→List Go.Abs.V | .elt _ cs _=>cs | _=>[]
def eltCaps:List TypeId→List D→List D
 | [],_=>[]
 | e::r,cs=>.elt e (cs.headD .undef).eltOf 0::eltCaps r cs.tail
def Sh.as (args:List D) (s:Sh) (d:D):D :=
 match s with
 | .v k=>.v k d.V
 | .nil=>.nil
 | .fn f es=>.fn f (eltCaps es d.capsOf)
 | .same k kd=>D.sameAs kd d (args.getD k .undef)
def Shs.as (args:List D):List Sh→List D→List D
 | [],_=>[]
 | s::r,cs=>s.as args (cs.headD .undef)::Shs.as args r cs.tail
def mkVal (T:Tab) (t:TypeId) (cs:List D):D:=iteD (T.get t).agg (.agg cs) (cs.headD .undef)
where iteD (b:Bool) (x y:D):D:=match b with | true=>x | false=>y
def vcells (lf:List K) (cs:List V):List D :=
 match lf with
 | []=>[]
 | k::r=>.v k (cs.headD V.none)::vcells r cs.tail
def getO (st:St) (H:Heap):Ref→Obj
 | .loc i=>st.loc.getD i .dead
 | .own i=>H.getD i .dead
def setO (st:St) (H:Heap) (r:Ref) (o:Obj) (k:St→Heap→Prop):Prop :=
 match r with
 | .loc i=>k ⟨st.tmps,st.loc.set i o⟩ H
 | .own i=>k st (H.set i o)
def setCells:List D→Nat→List D→List D
 | cs,_,[]=>cs
 | cs,off,x::r=>setCells (cs.set off x) (off+1) r
def closed:List K→List D→Option (List V)
 | [],[]=>some []
 | k::lf,.v k' x::r=>match decide (k=k') with
  | true=>(closed lf r).map (x::·)
  | false=>none
 | _,_=>none
mutual
def D.anyR (p:Ref→Bool):D→Bool
 | .ptr r _=>p r
 | .relt r _ _ _ _=>p r
 | .osl r _=>p r
 | .mp r=>p r
 | .agg cs=>D.anyL p cs
 | .tup cs=>D.anyL p cs
 | .fn _ cs=>D.anyL p cs
 | _=>false
def D.anyL (p:Ref→Bool):List D→Bool
 | []=>false
 | d::r=>match D.anyR p d with | true=>true | false=>D.anyL p r
end
def Ref.isLoc:Ref→Bool | .loc _=>true | .own _=>false
def Ref.isAt (i:Nat):Ref→Bool | .loc j=>Nat.beq i j | .own _=>false
def D.names (i:Nat) (d:D):Bool:=D.anyR (Ref.isAt i) d
def D.local (d:D):Bool:=D.anyR Ref.isLoc d
def D.localL (l:List D):Bool:=D.anyL Ref.isLoc l
def scrubD (i:Nat) (d:D):D:=match D.names i d with | true=>.undef | false=>d
def scrubO (i:Nat):Obj→Obj
 | .cells cs=>.cells (cs.map (scrubD i))
 | .iter m x n s=>.iter m (scrubD i x) n s
 | o=>o
def scrub (i:Nat) (st:St):St:=⟨st.tmps.map (scrubD i),st.loc.map (scrubO i)⟩
def newLoc (i:Nat) (o:Obj) (st:St):St:=let s:=scrub i st; ⟨s.tmps,s.loc.set i o⟩
def Ref.beq:Ref→Ref→Bool
 | .loc i,.loc j=>Nat.beq i j
 | .own i,.own j=>Nat.beq i j
 | _,_=>false
def memR (r:Ref):List Ref→Bool
 | []=>false
 | x::l=>match Ref.beq r x with | true=>true | false=>memR r l
def idxR (r:Ref):List Ref→Nat
 | []=>0
 | x::l=>match Ref.beq r x with | true=>0 | false=>idxR r l+1
mutual
def D.mapR (f:Ref→Ref):D→D
 | .ptr r o=>.ptr (f r) o
 | .relt r e n j o=>.relt (f r) e n j o
 | .osl r n=>.osl (f r) n
 | .mp r=>.mp (f r)
 | .agg cs=>.agg (D.mapRL f cs)
 | .tup cs=>.tup (D.mapRL f cs)
 | .fn g cs=>.fn g (D.mapRL f cs)
 | d=>d
def D.mapRL (f:Ref→Ref):List D→List D
 | []=>[]
 | d::r=>D.mapR f d::D.mapRL f r
end
mutual
def D.refs:D→List Ref
 | .ptr r _=>[r]
 | .relt r _ _ _ _=>[r]
 | .osl r _=>[r]
 | .mp r=>[r]
 | .agg cs=>D.refsL cs
 | .tup cs=>D.refsL cs
 | .fn _ cs=>D.refsL cs
 | _=>[]
def D.refsL:List D→List Ref
 | []=>[]
 | d::r=>D.refs d++D.refsL r
end
def Obj.mapR (f:Ref→Ref):Obj→Obj
 | .cells cs=>.cells (D.mapRL f cs)
 | o=>o
def Obj.refs:Obj→List Ref | .cells cs=>D.refsL cs | _=>[]
def renR (rs:List Ref) (r:Ref):Ref:=.own (idxR r rs)
def unR (rs:List Ref):Ref→Ref
 | .own i=>rs.getD i (.own 0)
 | r=>r
def lim:Nat:=549755813888
def big:Nat:=9223372036854775807
def ofConst:Value→D
 | .int k n=>.v (.int k) (.i n)
 | .bool b=>.v .bool (.b b)
 | .string s=>match Nat.ble s.size lim with | true=>.v .str (.s s) | false=>.undef
 | .slice none 0 0=>.nil
 | _=>.undef
def St.eval (st:St):Operand→D
 | .tmp t=>st.tmps.getD t .undef
 | .const v=>ofConst v
 | .func f=>.fn f []
 | .global _=>.undef
def St.evalT (T:Tab) (t:TypeId) (st:St):Operand→D
 | .const (.map none)=>match (T.get t).lf with | [.mp m]=>.v (.mp m) (.l []) | _=>.undef
 | x=>st.eval x
def bitAnd (k:IntKind) (x y:Int):Int:=k.wrap ((BitVec.ofInt k.bits x &&& BitVec.ofInt k.bits y).toNat:Int)
def bitOr (k:IntKind) (x y:Int):Int:=k.wrap ((BitVec.ofInt k.bits x ||| BitVec.ofInt k.bits y).toNat:Int)
def evInt (op:BinOp) (k:IntKind) (x y:Int) (q:D→Prop):Prop :=
 match op with
 | .add=>q (.v (.int k) (.i (k.wrap (x+y))))
 | .sub=>q (.v (.int k) (.i (k.wrap (x - y))))
 | .mul=>q (.v (.int k) (.i (k.wrap (x*y))))
 | .quo=>y≠0∧q (.v (.int k) (.i (k.wrap (x.tdiv y))))
 | .rem=>y≠0∧q (.v (.int k) (.i (x.tmod y)))
 | .eql=>q (.v .bool (.b (x == y)))
 | .neq=>q (.v .bool (.b (x != y)))
 | .lss=>q (.v .bool (.b (decide (x<y))))
 | .leq=>q (.v .bool (.b (decide (x≤y))))
 | .gtr=>q (.v .bool (.b (decide (x > y))))
 | .geq=>q (.v .bool (.b (decide (x≥y))))
 | .and=>q (.v (.int k) (.i (bitAnd k x y)))
 | .or=>q (.v (.int k) (.i (bitOr k x y)))
 | _=>False
def evStr (op:BinOp) (x y:ByteArray) (q:D→Prop):Prop :=
 match op with
 | .add=>x.size+y.size≤lim∧q (.v .str (.s (x++y)))
 | .eql=>q (.v .bool (.b (x.toList == y.toList)))
 | .neq=>q (.v .bool (.b (!(x.toList == y.toList))))
 | .lss=>q (.v .bool (.b (Op.bytesLess x.toList y.toList)))
 | .leq=>q (.v .bool (.b (Op.bytesLess x.toList y.toList||x.toList == y.toList)))
 | .gtr=>q (.v .bool (.b (!(Op.bytesLess x.toList y.toList||x.toList == y.toList))))
 | .geq=>q (.v .bool (.b (!(Op.bytesLess x.toList y.toList))))
 | _=>False
def evBool (op:BinOp) (x y:Bool) (q:D→Prop):Prop :=
 match op with
 | .eql=>q (.v .bool (.b (x == y)))
 | .neq=>q (.v .bool (.b (!(x == y))))
 | _=>False
def evShift (op:BinOp) (k:IntKind) (x y:Int) (q:D→Prop):Prop :=
 match op with
 | .shl=>0≤y∧q (.v (.int k) (.i (k.wrap (x*2 ^ (min y.toNat k.bits)))))
 | .shr=>0≤y∧q (.v (.int k) (.i (x.fdiv (2 ^ (min y.toNat k.bits)))))
 | _=>False
def isShift:BinOp→Bool | .shl=>true | .shr=>true | _=>false
def D.plain (k:K):D→D
 | .nil=>match k with | .sl e=>.v (.sl e) (.l []) | _=>.nil
 | d=>d
def plainL:List K→List D→List D
 | k::lf,d::r=>d.plain k::plainL lf r
 | _,r=>r
def K.isKey:K→Bool | .int _=>true | .bool=>true | .str=>true | _=>false
def cellEq:K→V→V→Bool
 | .int _,a,b=>a.int == b.int
 | .bool,a,b=>a.bool == b.bool
 | .str,a,b=>a.str.toList == b.str.toList
 | _,_,_=>false
def keyEq:List K→List V→List V→Bool
 | [],_,_=>true
 | k::lf,a,b=>match cellEq k (a.headD V.none) (b.headD V.none) with | true=>keyEq lf a.tail b.tail | false=>false
def mlook (lf:List K) (key:List V):List (List V)→Option (List V)
 | []=>none
 | e::r=>match keyEq lf key e with | true=>some (e.drop lf.length) | false=>mlook lf key r
def mget (lf:List K) (zs:List V) (key:List V) (xs:List (List V)):List V:=(mlook lf key xs).getD zs
def mhas (lf:List K) (key:List V) (xs:List (List V)):Bool:=(mlook lf key xs).isSome
def mset (lf:List K) (key val:List V):List (List V)→List (List V)
 | []=>[key++val]
 | e::r=>match keyEq lf key e with | true=>(key++val)::r | false=>e::mset lf key val r
def flatKey (T:Tab) (t:TypeId):Bool :=
 Nat.blt 0 (T.get t).lf.length&&(T.get t).lf.all K.isKey&&match (T.get t).agg,(T.get t).ar with
  | false,_=>decide ((T.get t).lf=[(T.get t).kd])
  | true,some (n,e)=>!(T.get e).agg&&decide ((T.get e).lf=[(T.get e).kd])&&decide ((T.get t).lf=List.replicate n (T.get e).kd)
  | true,none=>false
def closedT (T:Tab) (t:TypeId) (d:D):Option (List V) :=
 match (T.get t).agg,d with
 | true,.agg cs=>closed (T.get t).lf (plainL (T.get t).lf cs)
 | true,_=>none
 | false,.agg _=>none
 | false,d=>closed (T.get t).lf (plainL (T.get t).lf [d])
def evBin (T:Tab) (xt:TypeId) (op:BinOp) (x y:D) (q:D→Prop):Prop :=
 match x,y with
 | .v (.int k) a,.v (.int k') b=>match isShift op,decide (k=k') with
  | true,_=>evShift op k a.int b.int q
  | false,true=>evInt op k a.int b.int q
  | false,false=>False
 | .v .str a,.v .str b=>evStr op a.str b.str q
 | .v .bool a,.v .bool b=>match decide ((T.get xt).kd=.bool) with
  | true=>evBool op a.bool b.bool q
  | false=>False
 | .agg a,.agg b=>match flatKey T xt&&(T.get xt).agg,closedT T xt (.agg a),closedT T xt (.agg b) with
  | true,some u,some v=>match op with
   | .eql=>q (.v .bool (.b (keyEq (T.get xt).lf u v)))
   | .neq=>q (.v .bool (.b (!(keyEq (T.get xt).lf u v))))
   | _=>False
  | _,_,_=>False
 | _,_=>False
def evUn (op:UnOp) (x:D) (q:D→Prop):Prop :=
 match op,x with
 | .not,.v .bool a=>q (.v .bool (.b (!a.bool)))
 | .neg,.v (.int k) a=>q (.v (.int k) (.i (k.wrap (0 - a.int))))
 | _,_=>False
def withRow (o:Obj) (e:TypeId) (n:Nat) (k:List (List V)→Prop):Prop :=
 match o with
 | .row e' xs=>match Nat.beq e e' with
  | true=>xs.length=n∧k xs
  | false=>False
 | _=>False
def evLoad (T:Tab) (t:TypeId) (st:St) (H:Heap) (a:D) (q:D→Prop):Prop :=
 let n:=(T.get t).lf.length
 match Nat.blt 0 n with
 | false=>False
 | true=>match a with
 | .ptr r off=>match getO st H r with
  | .cells cs=>match Nat.ble (off+n) cs.length with
   | true=>q (mkVal T t ((cs.drop off).take n))
   | false=>False
  | _=>False
 | .elt e cs off=>match decide ((T.get t).lf=(((T.get e).lf.drop off).take n)),Nat.ble (off+n) (T.get e).lf.length with
  | true,true=>q (mkVal T t (vcells (T.get t).lf (cs.drop off)))
  | _,_=>False
 | .relt r e n' i off=>match decide ((T.get t).lf=(((T.get e).lf.drop off).take n)),Nat.ble (off+n) (T.get e).lf.length with
  | true,true=>withRow (getO st H r) e n' fun xs=>i<n'∧q (mkVal T t (vcells (T.get t).lf ((xs.getD i []).drop off)))
  | _,_=>False
 | _=>False
def setV:List V→Nat→List V→List V
 | cs,_,[]=>cs
 | cs,off,x::r=>setV (cs.set off x) (off+1) r
def Ref.takes:Ref→List D→Bool
 | .loc _,_=>true
 | .own _,ds=>!(D.localL ds)
def evStore (T:Tab) (t:TypeId) (st:St) (H:Heap) (a x:D) (q:St→Heap→Prop):Prop :=
 let n:=(T.get t).lf.length
 match Nat.beq x.cells.length n&&Nat.blt 0 n&&x.cells.all D.isCell with
 | false=>False
 | true=>match a with
  | .ptr r off=>match getO st H r with
   | .cells cs=>match Nat.ble (off+n) cs.length&&r.takes x.cells with
    | true=>setO st H r (.cells (setCells cs off x.cells)) q
    | false=>False
   | _=>False
  | .relt r e n' i off=>match closed (((T.get e).lf.drop off).take n) (plainL (((T.get e).lf.drop off).take n) x.cells),Nat.ble (off+n) (T.get e).lf.length with
   | some ys,true=>withRow (getO st H r) e n' fun xs=>i<n'∧setO st H r (.row e (xs.set i (setV (xs.getD i []) off ys))) q
   | _,_=>False
  | _=>False
def evFieldAddr (T:Tab) (s:TypeId) (f:Nat) (st:St) (H:Heap) (a:D) (q:D→Prop):Prop :=
 match (T.get s).flds[f]? with
 | none=>False
 | some (o,t)=>match Nat.blt 0 (T.get t).lf.length with
  | false=>False
  | true=>match a with
   | .ptr r off=>match getO st H r with
    | .cells _=>q (.ptr r (off+o))
    | _=>False
   | .elt e cs off=>q (.elt e cs (off+o))
   | .relt r e n i off=>withRow (getO st H r) e n fun _=>i<n∧q (.relt r e n i (off+o))
   | _=>False
def evField (T:Tab) (s:TypeId) (f:Nat) (a:D) (q:D→Prop):Prop :=
 match (T.get s).flds[f]?,a with
 | some (o,t),.agg cs=>match Nat.blt 0 (T.get t).lf.length&&Nat.ble (o+(T.get t).lf.length) cs.length with
  | true=>q (mkVal T t ((cs.drop o).take (T.get t).lf.length))
  | false=>False
 | _,_=>False
def litIx:D→Option Nat
 | .v (.int _) (.i (.ofNat m))=>some m
 | _=>none
def evIndexAddr (T:Tab) (t:TypeId) (x i:D) (st:St) (H:Heap) (q:D→Prop):Prop :=
 match (T.get t).el,i with
 | some e,.v (.int _) j=>match Nat.blt 0 (T.get e).lf.length with
  | false=>False
  | true=>match x with
  | .v (.sl e') y=>match Nat.beq e e' with
   | true=>0≤j.int∧j.int<y.list.length∧q (.elt e (y.list.getD j.int.toNat []) 0)
   | false=>False
  | .osl r n=>withRow (getO st H r) e n fun _=>0≤j.int∧j.int<n∧q (.relt r e n j.int.toNat 0)
  | .nil=>0≤j.int∧j.int<0∧q (.elt e [] 0)
  | _=>False
 | none,i=>match (T.get t).ar,litIx i,x with
  | some (n,e),some m,.ptr r off=>match getO st H r with
   | .cells _=>match Nat.blt m n&&Nat.blt 0 (T.get e).lf.length with
    | true=>q (.ptr r (off+m*(T.get e).lf.length))
    | false=>False
   | _=>False
  | _,_,_=>False
 | _,_=>False
def chunks (m:Nat):Nat→List V→List (List V)
 | 0,_=>[]
 | n+1,cs=>cs.take m::chunks m n (cs.drop m)
def evIndex (T:Tab) (t:TypeId) (x i:D) (q:D→Prop):Prop :=
 match x,i with
 | .v .str s,.v (.int _) j=>match decide ((T.get t).kd=.str) with
  | false=>False
  | true=>0≤j.int∧j.int<s.str.size∧q (.v (.int .u8) (.i ((s.str.data.toList.getD j.int.toNat 0).toNat:Int)))
 | .agg cs,.v (.int _) j=>match (T.get t).ar with
  | some (n,e)=>match closed (T.get t).lf (plainL (T.get t).lf cs),Nat.blt 0 (T.get e).lf.length&&decide ((T.get t).lf=(List.replicate n (T.get e).lf).flatten) with
   | some vs,true=>0≤j.int∧j.int<n∧q (mkVal T e (vcells (T.get e).lf ((chunks (T.get e).lf.length n vs).getD j.int.toNat [])))
   | _,_=>False
  | none=>False
 | _,_=>False
def bound (x:Option D) (dflt:Int):Option Int :=
 match x with
 | none=>some dflt
 | some (.v (.int _) j)=>some j.int
 | _=>none
def evSlice (T:Tab) (t:TypeId) (x:D) (lo hi:Option D) (q:D→Prop):Prop :=
 match x with
 | .v .str s=>match decide ((T.get t).kd=.str),bound lo 0,bound hi s.str.size with
  | true,some l,some h=>0≤l∧l≤h∧h≤s.str.size∧q (.v .str (.s (s.str.extract l.toNat h.toNat)))
  | _,_,_=>False
 | .v (.sl e) y=>match (T.get t).el,bound lo 0,bound hi y.list.length with
  | some e',some l,some h=>match Nat.beq e e'&&Nat.blt 0 (T.get e).lf.length with
   | true=>0≤l∧l≤h∧h≤y.list.length∧q (.v (.sl e) (.l ((y.list.take h.toNat).drop l.toNat)))
   | false=>False
  | _,_,_=>False
 | _=>False
def partAt (T:Tab) (s:TypeId) (i:Nat):Option (Nat×TypeId) :=
 match (T.get s).ar with
 | some (_,e)=>some (i*(T.get e).lf.length,e)
 | none=>(T.get s).flds[i]?
def arOk (T:Tab) (t:TypeId):Bool:=match (T.get t).ar with | some (_,e)=>Nat.blt 0 (T.get e).lf.length | none=>false
def partsOf (T:Tab) (s:TypeId) (zs:List D):List (Nat×D)→Option (List D)
 | []=>some zs
 | (i,x)::r=>match partAt T s i with
  | none=>none
  | some (o,t)=>match Nat.beq x.cells.length (T.get t).lf.length&&Nat.ble (o+x.cells.length) zs.length&&x.cells.all D.isCell with
   | true=>partsOf T s (setCells zs o x.cells) r
   | false=>none
def zeroD:K→D
 | .int k=>.v (.int k) (.i 0)
 | .bool=>.v .bool (.b false)
 | .str=>.v .str (.s ⟨#[]⟩)
 | .sl _=>.nil
 | .mp _=>.undef
 | .oth=>.undef
def zeroV:K→V
 | .int _=>.i 0
 | .bool=>.b false
 | .str=>.s ⟨#[]⟩
 | .sl _=>.l []
 | .mp _=>.l []
 | .oth=>.i 0
def elems (lf:List K) (n:Nat):Nat→List (Nat×D)→Option (List (List V))
 | j,[]=>match Nat.beq j n with | true=>some [] | false=>none
 | j,(i,x)::r=>match Nat.beq i j with
  | true=>match closed lf (plainL lf x.cells) with
   | some c=>(elems lf n (j+1) r).map (c::·)
   | none=>none
  | false=>none
def srcOf (e:TypeId) (st:St) (H:Heap) (x:D) (k:List (List V)→Prop):Prop :=
 match x with
 | .v (.sl e') y=>match Nat.beq e e' with | true=>k y.list | false=>False
 | .osl r n=>withRow (getO st H r) e n k
 | .nil=>k []
 | _=>False
def evAppend0 (e:TypeId) (s x:D) (st:St) (H:Heap) (q:D→St→Heap→Prop):Prop :=
 match s with
 | .osl r n=>withRow (getO st H r) e n fun xs=>srcOf e st H x fun ys=>n+ys.length≤lim ∧
   setO st H r (.row e (xs++ys)) (fun st H=>q (.osl r (n+ys.length)) st H)
 | _=>False
def evAppend (e:TypeId) (d:Nat) (s x:D) (st:St) (H:Heap) (q:D→St→Heap→Prop):Prop :=
 match s with
 | .nil=>evAppend0 e (.osl (.loc d) 0) (scrubD d x) (newLoc d (.row e []) st) H q
 | s=>evAppend0 e s x st H q
def withMap (o:Obj) (m:MT) (k:List (List V)→Prop):Prop :=
 match o with
 | .map m' xs=>match decide (m=m') with
  | true=>k xs
  | false=>False
 | _=>False
def srcMap (m:MT) (st:St) (H:Heap) (x:D) (k:List (List V)→Prop):Prop :=
 match x with
 | .v (.mp m') y=>match decide (m=m') with
  | true=>k y.list
  | false=>False
 | .mp r=>withMap (getO st H r) m k
 | _=>False
def evLen (T:Tab) (t:TypeId) (st:St) (H:Heap) (x:D) (q:D→Prop):Prop :=
 match x with
 | .v .str s=>match decide ((T.get t).kd=.str) with
  | true=>s.str.size≤big→q (.v (.int .i64) (.i s.str.size))
  | false=>False
 | .v (.sl _) y=>match (T.get t).el with
  | some _=>y.list.length≤big→q (.v (.int .i64) (.i y.list.length))
  | none=>False
 | .osl r n=>match (T.get t).el with
  | some e=>withRow (getO st H r) e n fun _=>n≤big→q (.v (.int .i64) (.i n))
  | none=>False
 | .nil=>match (T.get t).el with
  | some _=>q (.v (.int .i64) (.i 0))
  | none=>False
 | .ln n=>match (T.get t).el with
  | some _=>n≤big→q (.v (.int .i64) (.i n))
  | none=>False
 | .v (.mp m) y=>match (T.get t).mp with
  | some m'=>match decide (m=m') with
   | true=>q (.v (.int .i64) (.i y.list.length))
   | false=>False
  | none=>False
 | .mp r=>match (T.get t).mp with
  | some m=>withMap (getO st H r) m fun xs=>q (.v (.int .i64) (.i xs.length))
  | none=>False
 | _=>False
def evLen0 (T:Tab) (t:TypeId) (st:St) (H:Heap) (x:D) (q:D→Prop):Prop :=
 match x with
 | .v .str s=>match decide ((T.get t).kd=.str) with
  | true=>q (.v (.int .i64) (.i s.str.size))
  | false=>False
 | .v (.sl _) y=>match (T.get t).el with
  | some _=>q (.v (.int .i64) (.i y.list.length))
  | none=>False
 | .osl r n=>match (T.get t).el with
  | some e=>withRow (getO st H r) e n fun _=>q (.v (.int .i64) (.i n))
  | none=>False
 | .nil=>match (T.get t).el with
  | some _=>q (.v (.int .i64) (.i 0))
  | none=>False
 | .ln n=>match (T.get t).el with
  | some _=>q (.v (.int .i64) (.i n))
  | none=>False
 | .v (.mp m) y=>match (T.get t).mp with
  | some m'=>match decide (m=m') with
   | true=>q (.v (.int .i64) (.i y.list.length))
   | false=>False
  | none=>False
 | .mp r=>match (T.get t).mp with
  | some m=>withMap (getO st H r) m fun xs=>q (.v (.int .i64) (.i xs.length))
  | none=>False
 | _=>False
def evMinMax (mx:Bool):List D→(D→Prop)→Prop
 | [.v (.int k) a,.v (.int k') b],q=>match decide (k=k'),mx with
  | true,true=>q (.v (.int k) (.i (if b.int > a.int then b.int else a.int)))
  | true,false=>q (.v (.int k) (.i (if b.int<a.int then b.int else a.int)))
  | _,_=>False
 | _,_=>False
def bytesV (s:ByteArray):List (List V):=s.data.toList.map fun b=>[.i (b.toNat:Int)]
def strV (xs:List (List V)):ByteArray:=⟨(xs.map fun c=>UInt8.ofNat (c.headD V.none).int.toNat).toArray⟩
def evConvert (T:Tab) (src dst:TypeId) (x:D) (q:D→Prop):Prop :=
 match x with
 | .v (.int k) n=>match decide ((T.get src).kd=.int k),(T.get dst).kd with
  | true,.int k'=>q (.v (.int k') (.i (k'.wrap n.int)))
  | _,_=>False
 | .v (.sl e) y=>match (T.get src).el with
  | some e'=>match Nat.beq e e'&&decide ((T.get e).kd=.int .u8)&&decide ((T.get e).lf=[.int .u8])&&decide ((T.get dst).kd=.str) with
   | true=>q (.v .str (.s (strV y.list)))
   | false=>False
  | none=>False
 | .v .str s=>match decide ((T.get src).kd=.str),(T.get dst).el with
  | true,some e=>match decide ((T.get e).kd=.int .u8),decide ((T.get e).lf=[.int .u8]) with
   | true,true=>q (.v (.sl e) (.l (bytesV s.str)))
   | _,_=>False
  | true,none=>match decide ((T.get dst).kd=.str) with
   | true=>q (.v .str s)
   | false=>False
  | _,_=>False
 | _=>False
def K.isData:K→Bool | .oth=>false | .mp _=>false | _=>true
def zeroRow (lf:List K) (n:Nat):List (List V):=List.replicate n (lf.map zeroV)
def evMakeSlice (T:Tab) (t:TypeId) (d:Nat) (l c:D) (st:St) (H:Heap) (q:D→St→Heap→Prop):Prop :=
 match (T.get t).el,l,c with
 | some e,.v (.int _) x,.v (.int _) y=>match Nat.blt 0 (T.get e).lf.length&&(T.get e).lf.all K.isData with
  | true=>0≤x.int∧y.int=x.int∧x.int≤lim∧q (.osl (.loc d) x.int.toNat) (newLoc d (.row e (zeroRow (T.get e).lf x.int.toNat)) st) H
  | false=>False
 | _,_,_=>False
def K.isElem:K→Bool | .oth=>false | .mp _=>false | _=>true
def mapFit (T:Tab) (m:MT):Bool :=
 flatKey T m.k&&Nat.blt 0 (T.get m.e).lf.length&&(T.get m.e).lf.all K.isElem&&(match (T.get m.k).agg,m.ka with | true,true=>true | false,false=>true | _,_=>false)&&(match (T.get m.e).agg,m.ea with | true,true=>true | false,false=>true | _,_=>false)
def evMakeMap (T:Tab) (t:TypeId) (d:Nat) (st:St) (H:Heap) (q:D→St→Heap→Prop):Prop :=
 match (T.get t).mp with
 | some m=>q (.mp (.loc d)) (newLoc d (.map m []) st) H
 | none=>False
def evLookup (T:Tab) (t:TypeId) (ok:Bool) (x i:D) (st:St) (H:Heap) (q:D→Prop):Prop :=
 match (T.get t).mp with
 | none=>False
 | some m=>match mapFit T m,closedT T m.k i with
  | true,some key=>srcMap m st H x fun xs =>
   match ok with
   | true=>q (.tup [mkVal T m.e (vcells (T.get m.e).lf (mget (T.get m.k).lf ((T.get m.e).lf.map zeroV) key xs)),.v .bool (.b (mhas (T.get m.k).lf key xs))])
   | false=>q (mkVal T m.e (vcells (T.get m.e).lf (mget (T.get m.k).lf ((T.get m.e).lf.map zeroV) key xs)))
  | _,_=>False
def evMapUpdate (T:Tab) (t:TypeId) (x i v:D) (st:St) (H:Heap) (q:St→Heap→Prop):Prop :=
 match (T.get t).mp,x with
 | some m,.mp r=>match mapFit T m,closedT T m.k i,closedT T m.e v with
  | true,some key,some val=>withMap (getO st H r) m fun xs=>setO st H r (.map m (mset (T.get m.k).lf key val xs)) q
  | _,_,_=>False
 | _,_=>False
def evRange (T:Tab) (t:TypeId) (d:Nat) (x:D) (st:St) (H:Heap) (q:D→St→Heap→Prop):Prop :=
 match (T.get t).mp with
 | some m=>match mapFit T m,D.names d x with
  | true,false=>srcMap m st H x fun xs=>q (.ptr (.loc d) 0) (newLoc d (.iter m x xs.length []) st) H
  | _,_=>False
 | none=>False
def keyD (T:Tab) (m:MT) (e:List V):D:=mkVal T m.k (vcells (T.get m.k).lf e)
def elemD (T:Tab) (m:MT) (e:List V):D:=mkVal T m.e (vcells (T.get m.e).lf (e.drop (T.get m.k).lf.length))
def evNext (T:Tab) (it:D) (st:St) (H:Heap) (q:D→St→Heap→Prop):Prop :=
 match it with
 | .ptr (.loc i) 0=>match st.loc.getD i .dead with
  | .iter m x n seen=>match mapFit T m with
   | true=>srcMap m st H x fun xs=>xs.length=n ∧
    ((∀ j,j<n→j∈seen)→q (.tup [.v .bool (.b false)]) st H) ∧
    (∀ j,j<n→j ∉ seen→seen.length<n→q (.tup [.v .bool (.b true),keyD T m (xs.getD j []),elemD T m (xs.getD j [])]) ⟨st.tmps,st.loc.set i (.iter m x n (j::seen))⟩ H)
   | false=>False
  | _=>False
 | _=>False
def evEntry (T:Tab) (it:D) (st:St) (H:Heap) (q:D→Prop):Prop :=
 match it with
 | .ptr (.loc i) 0=>match st.loc.getD i .dead with
  | .iter m x n (j::_)=>match mapFit T m with
   | true=>srcMap m st H x fun xs=>xs.length=n∧q (.tup [keyD T m (xs.getD j []),elemD T m (xs.getD j [])])
   | false=>False
  | _=>False
 | _=>False
inductive RS where
 | one (s:Sh) | agg (l:List Sh) | tup (l:List RS)
mutual
def RS.as (args:List D):RS→D→D
 | .one s,d=>s.as args d
 | .agg l,d=>.agg (Shs.as args l d.cells)
 | .tup l,d=>.tup (RS.asL args l d.parts)
def RS.asL (args:List D):List RS→List D→List D
 | [],_=>[]
 | s::r,ds=>RS.as args s (ds.headD .undef)::RS.asL args r ds.tail
end
inductive Adj where
 | undef (t:Nat) | dead (i:Nat) | ownT (t i:Nat) (e:TypeId) | ownC (l j i:Nat) (e:TypeId) | plainT (t:Nat) (e:TypeId) | plainC (l j:Nat) (e:TypeId)
def adj1 (x:Adj) (st:St):St :=
 match x with
 | .undef t=>⟨st.tmps.set t .undef,st.loc⟩
 | .dead i=>newLoc i .dead st
 | .ownT t i e=>match st.tmps.getD t .undef with
  | .nil=>let s:=newLoc i (.row e []) st; ⟨s.tmps.set t (.osl (.loc i) 0),s.loc⟩
  | _=>st
 | .ownC l j i e=>match st.loc.getD l .dead,Nat.beq l i with
  | .cells cs,false=>match cs.getD j .undef with
   | .nil=>let s:=newLoc i (.row e []) st; ⟨s.tmps,s.loc.set l (.cells ((cs.map (scrubD i)).set j (.osl (.loc i) 0)))⟩
   | _=>st
  | _,_=>st
 | .plainT t e=>⟨st.tmps.set t ((st.tmps.getD t .undef).plain (.sl e)),st.loc⟩
 | .plainC l j e=>match st.loc.getD l .dead with
  | .cells cs=>⟨st.tmps,st.loc.set l (.cells (cs.set j ((cs.getD j .undef).plain (.sl e))))⟩
  | _=>st
def adj:List Adj→St→St
 | [],st=>st
 | x::r,st=>adj r (adj1 x st)
def key:Code→Nat
 | .region id _ _=>id
 | .seq a _=>key a
 | .cond _ a _=>key a
 | .block _ c=>key c
 | .loop c=>key c
 | .rangeFunc _ _ _ c=>key c
 | _=>0
structure Frz where
 l:Nat
 j:Nat
 i:Nat
def frzT (l:List Frz) (t:Nat) (st:St) (q:St→Prop):Prop :=
 match l with
 | []=>q st
 | _::_=>match st.tmps.getD t .undef with
  | .osl (.loc i) n=>match st.loc.getD i .dead with
   | .row e xs=>n=xs.length∧q ((newLoc i .dead st).put (some t) (.v (.sl e) (.l xs)))
   | _=>q st
  | .mp (.loc i)=>match st.loc.getD i .dead with
   | .map m xs=>q ((newLoc i .dead st).put (some t) (.v (.mp m) (.l xs)))
   | _=>q st
  | _=>q st
def evFrz : List Frz → St → (St → Prop) → Prop
  | [], st, q => q st
  | f :: r, st, q => match Nat.beq f.j 999999 with
   | true => frzT [f] f.l st fun st => evFrz r st q
   | false => match st.loc.getD f.l .dead, st.loc.getD f.i .dead, Nat.beq f.l f.i with
    | .cells cs, .row e xs, false => match cs.getD f.j .undef with
      | .osl (.loc i') n => match Nat.beq f.i i' with
        | true => n = xs.length ∧ evFrz r ⟨(newLoc f.i .dead st).tmps, (newLoc f.i .dead st).loc.set f.l (.cells ((cs.map (scrubD f.i)).set f.j (.v (.sl e) (.l xs))))⟩ q
        | false => False
      | _ => False
    | _, _, _ => False
structure Env where
 T:Tab
 rs:FuncId→List D→RS
 ext:FuncId→Bool                       -- the library's own comparison of two strings
 ent:FuncId→Bool                       -- functions that are entered
 call:FuncId→List D→Heap→(D→Heap→Prop)→Prop
 owns:FuncId→Option (Nat×TypeId)     -- of which argument a nil is handed over as an empty row
 nils:FuncId→List (Option TypeId)      -- of which arguments a nil is handed over as an empty slice of data
 frz:Nat→List Frz                      -- at the start of a region
 lit:Nat→Bool                          -- literals that become rows of the call's own (by their temporary)
 flt:Nat→List Nat                      -- copies that are made first, in a region whose order is drawn
 late:Nat→List (Nat×Nat)             -- stores into older objects among them: operation and object
 cut:Nat→Nat                           -- how many operations of a region whose order is drawn may come in any order
 join:Nat→Bool                         -- where ways come together (by the first region behind)
 adj:Nat→List Adj                      -- what is changed at the head of a loop (by its first region)
 iter:FuncId→List D→List (List V)→Prop   -- what an iterator yields, row by row
 anyI:FuncId→Bool                      -- iterators that yield their rows in any order
 row:FuncId→List V→List D            -- what a row is to a round
 fresh:FuncId→Option TypeId            -- functions that hand back a new row of the caller's own
 keep:Bool                               -- the result is a row of the call's own, and stays one
 freshP:FuncId→List D→List (List V)→Prop   -- what the new row holds
mutual
def reshapeD:D→D→D
 | .v k _,d=>.v k d.V
 | .osl r _,d=>.osl r d.len
 | .agg cs,d=>.agg (reshapeL cs d.cells)
 | c,_=>c
def reshapeL:List D→List D→List D
 | [],_=>[]
 | c::r,ds=>reshapeD c (ds.headD .undef)::reshapeL r ds.tail
end
def reshapeO:Obj→Obj→Obj
 | .cells cs,o=>.cells (reshapeL cs o.cs)
 | .row e _,o=>.row e o.xs
 | .map m _,o=>.map m o.xs
 | .iter m x n s,_=>.iter m x n s
 | .dead,_=>.dead
def reshapes:List Obj→List Obj→List Obj
 | [],_=>[]
 | o::r,l=>reshapeO o (l.headD .dead)::reshapes r l.tail
def Obj.isDead:Obj→Bool | .dead=>true | .iter _ _ _ _=>true | _=>false
def reachL (st:St) (H:Heap):Nat→List Ref→List Ref→List Ref
 | 0,_,done=>done
 | _+1,[],done=>done
 | n+1,r::todo,done=>match memR r done with
  | true=>reachL st H n todo done
  | false=>reachL st H n ((getO st H r).refs++todo) (done++[r])
def rsOf (st:St) (H:Heap) (args:List D):List Ref:=reachL st H 100 (D.refsL args) []
def nodupR:List Ref→Bool
 | []=>true
 | r::l=>!(memR r l)&&nodupR l
def allIn (rs l:List Ref):Bool:=l.all fun r=>memR r rs
def okRefs (st:St) (H:Heap) (rs:List Ref) (args:List D):Bool :=
 nodupR rs&&allIn rs (D.refsL args)&&rs.all fun r=>!((getO st H r).isDead)&&allIn rs (getO st H r).refs
def objsOf (st:St) (H:Heap) (rs:List Ref):List Obj:=rs.map fun r=>(getO st H r).mapR (renR rs)
def Ref.beyond (n:Nat):Ref→Bool | .own i=>Nat.ble n i | .loc _=>true
def newObj (rs:List Ref) (os:List Obj) (r:Ref) (o:Obj):Obj:=match memR r rs with | true=>(os.getD (idxR r rs) .dead).mapR (unR rs) | false=>o
def updI {α:Type} (f:Nat→α→α):Nat→List α→List α
 | _,[]=>[]
 | i,x::l=>f i x::updI f (i+1) l
def updLoc (rs:List Ref) (os:List Obj) (st:St):St:=⟨st.tmps,updI (fun i=>newObj rs os (.loc i)) 0 st.loc⟩
def updOwn (rs:List Ref) (os:List Obj) (H:Heap):Heap:=updI (fun i=>newObj rs os (.own i)) 0 H
def plainA:List (Option TypeId)→List D→List D
 | some e::l,d::r=>d.plain (.sl e)::plainA l r
 | none::l,d::r=>d::plainA l r
 | _,r=>r
def evCall (E:Env) (f:FuncId) (args0:List D) (st:St) (H:Heap) (q:D→St→Heap→Prop):Prop :=
 match E.ent f with
 | false=>match E.ext f,args0 with
  | true,[.v .str a,.v .str b]=>q (.v (.int .i64) (.i (Lib.compareBytes a.str.data.toList b.str.data.toList))) st H
  | _,_=>False
 | true =>
  let args:=plainA (E.nils f) args0
  let rs:=rsOf st H args
  let as:=D.mapRL (renR rs) args
  let os:=objsOf st H rs
  match okRefs st H rs args with
  | false=>False
  | true=>E.call f as os fun r H'=>r=RS.as as (E.rs f as) r∧H'=reshapes os H' ∧
    match D.anyR (Ref.beyond rs.length) (RS.as as (E.rs f as) r) with
    | true=>False
    | false=>q (D.mapR (unR rs) (RS.as as (E.rs f as) r)) (updLoc rs (reshapes os H') st) (updOwn rs (reshapes os H') H)
def evCallO (E:Env) (f:FuncId) (dst:Option Nat) (args:List D) (st:St) (H:Heap) (q:D→St→Heap→Prop):Prop :=
 match E.fresh f with
 | some e=>(match dst,E.ent f,D.anyL (fun _=>true) args with
  | some d,true,false=>∃ xs,E.freshP f args xs∧q (.osl (.loc d) xs.length) (newLoc d (.row e xs) st) H
  | _,_,_=>False)
 | none=>match E.owns f,dst with
 | some (k,e),some d=>match args.getD k .undef with
  | .nil=>evCall E f ((args.map (scrubD d)).set k (.osl (.loc d) 0)) (newLoc d (.row e []) st) H q
  | _=>evCall E f args st H q
 | _,_=>evCall E f args st H q
def evBuiltin (E:Env) (b:Builtin) (argTypes:List TypeId) (dst:Option Nat) (args:List D) (st:St) (H:Heap) (q:D→St→Heap→Prop):Prop :=
 match b,args with
 | .len,[x]=>match argTypes with
  | [t]=>evLen E.T t st H x fun d=>q d st H
  | _=>False
 | .append,[s,x]=>match argTypes with
  | [t,t']=>match Nat.beq t t',(E.T.get t).el,dst with
   | true,some e,some d=>match Nat.blt 0 (E.T.get e).lf.length with
    | true=>evAppend e d s x st H q
    | false=>False
   | _,_,_=>False
  | _=>False
 | .max,l=>evMinMax true l fun d=>q d st H
 | .min,l=>evMinMax false l fun d=>q d st H
 | _,_=>False
def litOf (E:Env):Option Nat→Bool | some d=>E.lit d | none=>false
def evOp (E:Env) (o:Oper) (st:St) (H:Heap) (q:D→St→Heap→Prop):Prop :=
 match o.op with
 | .move x | .assign x=>q (st.eval x) st H
 | .pick c x y=>match st.eval c with
  | .v .bool b=>iff b.bool (q (st.eval x) st H) (q (st.eval y) st H)
  | _=>False
 | .alloc e=>match o.dst,Nat.blt 0 (E.T.get e).lf.length with
  | some d,true=>q (.ptr (.loc d) 0) (newLoc d (.cells ((E.T.get e).lf.map zeroD)) st) H
  | _,_=>False
 | .box e x=>match litOf E o.dst with
  | true=>(match closed (E.T.get e).lf (st.eval x).cells with
   | some ys=>q (.elt e ys 0) st H
   | none=>False)
  | false=>(match o.dst,Nat.beq (st.eval x).cells.length (E.T.get e).lf.length&&(st.eval x).cells.all D.isCell with
   | some d,true=>q (.ptr (.loc d) 0) (newLoc d (.cells ((st.eval x).cells.map (scrubD d))) st) H
   | _,_=>False)
 | .build t parts=>match (E.T.get t).agg&&(!(E.T.get t).flds.isEmpty||arOk E.T t)&&Nat.blt 0 (E.T.get t).lf.length,partsOf E.T t ((E.T.get t).lf.map zeroD) (parts.toList.map fun p=>(p.1,st.eval p.2)) with
  | true,some cs=>q (.agg cs) st H
  | _,_=>False
 | .buildSlice t n parts=>match (E.T.get t).el with
  | some e=>match Nat.blt 0 (E.T.get e).lf.length&&Nat.ble (n*(E.T.get e).lf.length) 16777216&&Nat.ble parts.toList.length n,elems (E.T.get e).lf n 0 (parts.toList.map fun p=>(p.1,st.eval p.2)) with
   | true,some xs=>match o.dst,litOf E o.dst with
    | some d,true=>q (.osl (.loc d) n) (newLoc d (.row e xs) st) H
    | _,_=>q (.v (.sl e) (.l xs)) st H
   | _,_=>False
  | none=>False
 | .load t a=>evLoad E.T t st H (st.eval a) fun d=>q d st H
 | .store t a x=>evStore E.T t st H (st.eval a) (st.evalT E.T t x) fun st H=>q .skip st H
 | .nilCheck x=>match st.eval x with
  | .ptr r off=>match getO st H r with
   | .cells _=>q (.ptr r off) st H
   | _=>False
  | _=>False
 | .binOp op xt x y _=>evBin E.T xt op (st.eval x) (st.eval y) fun d=>q d st H
 | .unOp op _ x=>evUn op (st.eval x) fun d=>q d st H
 | .fieldAddr s x f=>evFieldAddr E.T s f st H (st.eval x) fun d=>q d st H
 | .field s x f=>evField E.T s f (st.eval x) fun d=>q d st H
 | .indexAddr t x i=>evIndexAddr E.T t (st.eval x) (st.eval i) st H fun d=>q d st H
 | .index t x i=>evIndex E.T t (st.eval x) (st.eval i) fun d=>q d st H
 | .slice t x lo hi none=>evSlice E.T t (st.eval x) (lo.map st.eval) (hi.map st.eval) fun d=>q d st H
 | .makeFunc (.func f) first caps=>match first.toList with
  | []=>q (.fn f (caps.toList.map st.eval)) st H
  | _=>False
 | .convert s d x=>evConvert E.T s d (st.eval x) fun d=>q d st H
 | .makeSlice t x y=>match o.dst with
  | some d=>evMakeSlice E.T t d (st.eval x) (st.eval y) st H q
  | none=>False
 | .makeMap t none=>match o.dst with
  | some d=>evMakeMap E.T t d st H q
  | none=>False
 | .lookup t x i ok=>evLookup E.T t ok (st.eval x) (st.eval i) st H fun d=>q d st H
 | .mapUpdate t m k x=>evMapUpdate E.T t (st.eval m) (st.eval k) (st.eval x) st H fun st H=>q .skip st H
 | .insert t m k x=>evMapUpdate E.T t (st.eval m) (st.eval k) (st.eval x) st H fun st H=>q .skip st H
 | .range t x=>match o.dst with
  | some d=>evRange E.T t d (st.eval x) st H q
  | none=>False
 | .next it false=>evNext E.T (st.eval it) st H q
 | .entry it=>evEntry E.T (st.eval it) st H fun d=>q d st H
 | .extract x i=>match st.eval x with
  | .tup ds=>match Nat.blt i ds.length with
   | true=>q (ds.getD i .undef) st H
   | false=>False
  | _=>False
 | .call c=>match c.callee with
  | .builtin b=>evBuiltin E b c.argTypes.toList o.dst (c.args.toList.map st.eval) st H q
  | .value f=>match st.eval f with
   | .fn f caps=>evCallO E f o.dst (c.args.toList.map st.eval++caps) st H q
   | _=>False
  | _=>False
 | _=>False
def post (E:Env) (d:Option Nat) (st:St):St:=match d with | some d=>adj (E.adj (4000000+d)) st | none=>st
def postF (E:Env) (d:Option Nat) (st:St) (q:St→Prop):Prop:=match d with | some d=>frzT (E.frz (5000000+d)) d st q | none=>q st
def nilM (E:Env) (o:Oper):Option MT:=match o.op with
 | .assign (.const (.map none))=>(match (E.T.get o.type).lf with | [.mp m]=>some m | _=>none)
 | _=>none
def evOpN (E:Env) (o:Oper) (st:St) (H:Heap) (q:D→St→Heap→Prop):Prop:=match nilM E o with
 | some m=>q (.v (.mp m) (.l [])) st H
 | none=>evOp E o st H q
def evOps (E:Env) (ops:Array Oper):List Oper→St→Heap→(St→Heap→Prop)→Prop
 | [],st,H,q=>q st H
 | o::r,st,H,q=>match o.guard with
  | none=>evOpN E o st H fun d st H=>postF E o.dst (post E o.dst (st.put o.dst d)) fun st=>evOps E ops r st H q
  | some (j,want)=>match (ops[j]?).bind (·.dst) with
   | none=>False
   | some g=>match st.tmps.getD g .undef with
    | .v .bool x=>iff x.bool
      (match want with
       | true=>evOp E o (st.put (some g) (.v .bool (.b true))) H fun d st H=>evOps E ops r (st.put o.dst d) H q
       | false=>evOps E ops r ((st.put (some g) (.v .bool (.b true))).put o.dst .skip) H q)
      (match want with
       | true=>evOps E ops r ((st.put (some g) (.v .bool (.b false))).put o.dst .skip) H q
       | false=>evOp E o (st.put (some g) (.v .bool (.b false))) H fun d st H=>evOps E ops r (st.put o.dst d) H q)
    | .skip=>evOps E ops r (st.put o.dst .skip) H q
    | _=>False
def evOpP (E:Env) (o:Oper) (st:St) (H:Heap) (q:D→Prop):Prop :=
 match o.op with
 | .move x | .assign x=>q (st.eval x)
 | .pick c x y=>match st.eval c with
  | .v .bool b=>iff b.bool (q (st.eval x)) (q (st.eval y))
  | _=>False
 | .build t parts=>match (E.T.get t).agg&&(!(E.T.get t).flds.isEmpty||arOk E.T t)&&Nat.blt 0 (E.T.get t).lf.length,partsOf E.T t ((E.T.get t).lf.map zeroD) (parts.toList.map fun p=>(p.1,st.eval p.2)) with
  | true,some cs=>q (.agg cs)
  | _,_=>False
 | .buildSlice t n parts=>match (E.T.get t).el,litOf E o.dst with
  | some e,false=>match Nat.blt 0 (E.T.get e).lf.length&&Nat.ble (n*(E.T.get e).lf.length) 16777216&&Nat.ble parts.toList.length n,elems (E.T.get e).lf n 0 (parts.toList.map fun p=>(p.1,st.eval p.2)) with
   | true,some xs=>q (.v (.sl e) (.l xs))
   | _,_=>False
  | _,_=>False
 | .load t a=>evLoad E.T t st H (st.eval a) q
 | .nilCheck x=>match st.eval x with
  | .ptr r off=>match getO st H r with
   | .cells _=>q (.ptr r off)
   | _=>False
  | _=>False
 | .binOp op xt x y _=>evBin E.T xt op (st.eval x) (st.eval y) q
 | .unOp op _ x=>evUn op (st.eval x) q
 | .fieldAddr s x f=>evFieldAddr E.T s f st H (st.eval x) q
 | .field s x f=>evField E.T s f (st.eval x) q
 | .indexAddr t x i=>evIndexAddr E.T t (st.eval x) (st.eval i) st H q
 | .index t x i=>evIndex E.T t (st.eval x) (st.eval i) q
 | .slice t x lo hi none=>evSlice E.T t (st.eval x) (lo.map st.eval) (hi.map st.eval) q
 | .makeFunc (.func f) first caps=>match first.toList with
  | []=>q (.fn f (caps.toList.map st.eval))
  | _=>False
 | .convert s d x=>evConvert E.T s d (st.eval x) q
 | .lookup t x i ok=>evLookup E.T t ok (st.eval x) (st.eval i) st H q
 | .extract x i=>match st.eval x with
  | .tup ds=>match Nat.blt i ds.length with
   | true=>q (ds.getD i .undef)
   | false=>False
  | _=>False
 | .call c=>match c.callee with
  | .builtin .len=>match c.args.toList.map st.eval,c.argTypes.toList with
   | [x],[t]=>evLen0 E.T t st H x q
   | _,_=>False
  | .builtin .max=>evMinMax true (c.args.toList.map st.eval) q
  | .builtin .min=>evMinMax false (c.args.toList.map st.eval) q
  | .value f=>match st.eval f with
   | .fn f caps =>
    let args:=plainA (E.nils f) (c.args.toList.map st.eval++caps)
    let rs:=rsOf st H args
    let as:=D.mapRL (renR rs) args
    let os:=objsOf st H rs
    match E.ent f&&okRefs st H rs args with
    | true=>∃ d,E.call f as os (fun r H'=>r=RS.as as (E.rs f as) d∧H'=os) ∧
     match D.anyR (Ref.beyond rs.length) (RS.as as (E.rs f as) d) with
     | true=>False
     | false=>q (D.mapR (unR rs) (RS.as as (E.rs f as) d))
    | false=>False
   | _=>False
  | _=>False
 | _=>False
def inL (l:List Nat) (x:Nat):Bool:=match l with | []=>false | y::r=>match Nat.beq x y with | true=>true | false=>inL r x
def Ref.isIn (l:List Nat):Ref→Bool | .loc i=>inL l i | .own _=>false
def isGuard (i:Nat):List Oper→Bool
 | []=>false
 | o::r=>match o.guard with
  | some (j,_)=>match Nat.beq i j with | true=>true | false=>isGuard i r
  | none=>isGuard i r
def laLook (la:List (Nat×Option Nat)) (l:Nat):Option Nat :=
 match la with
 | []=>none
 | (l',p)::r=>match Nat.beq l l' with | true=>p | false=>laLook r l
def laIs (la:List (Nat×Option Nat)) (l p:Nat):Bool:=match laLook la l with | some p'=>Nat.beq p p' | none=>false
def laHas (la:List (Nat×Option Nat)) (l:Nat):Bool:=match la with | []=>false | (l',_)::r=>match Nat.beq l l' with | true=>true | false=>laHas r l
def lateWs (lt:List (Nat×Nat)) (i:Nat):List Nat:=match lt with | []=>[] | (j,l)::r=>match Nat.beq j i with | true=>l::lateWs r i | false=>lateWs r i
def lateBase (tab:List Nat) (lt:List (Nat×Nat)) (b:List Obj) (i:Nat):List Obj:=match lt with
 | []=>b
 | (j,l)::r=>match (tab.getD j 0).testBit i with | true=>lateBase tab r b i | false=>lateBase tab r (b.set l .dead) i
def evLate (E:Env) (ks ws:List Nat) (la:List (Nat×Option Nat)) (o:Oper) (t:TypeId) (p:Nat) (x:Operand) (st:St) (k:D→List Obj→List (Nat×Option Nat)→Prop):Prop :=
 match o.dst,st.tmps.getD p .undef with
 | none,.ptr (.loc l) f=>match st.loc.getD l .dead with
  | .cells cs =>
   match inL ws l&&!(inL ks l)&&!(laHas la l)&&Nat.ble (f+(E.T.get t).lf.length) cs.length&&Nat.beq (st.eval x).cells.length (E.T.get t).lf.length&&Nat.blt 0 (E.T.get t).lf.length&&(st.eval x).cells.all D.isCell&&!(D.anyL (Ref.isIn ks) (st.eval x).cells) with
   | true=>k .skip (st.loc.set l (.cells (setCells cs f (st.eval x).cells))) ((l,none)::la)
   | false=>False
  | _=>False
 | _,_=>False
def evPureK (E:Env) (base:List Obj) (ks:List Nat) (la:List (Nat×Option Nat)) (o:Oper) (st:St) (H:Heap) (k:D→List Obj→List (Nat×Option Nat)→Prop):Prop :=
 evOpP E o ⟨st.tmps,base⟩ H fun d=>match D.anyR (Ref.isIn ks) d with | false=>k d st.loc la | true=>False
def evHeadOp (E : Env) (base : List Obj) (ks ws : List Nat) (la : List (Nat × Option Nat)) (o : Oper) (st : St) (H : Heap) (k : D → List Obj → List (Nat × Option Nat) → Prop) : Prop :=
  match o.op, o.guard with
  | .alloc e, none => match o.dst with
    | some d => match inL ks d, Nat.blt 0 (E.T.get e).lf.length with
      | true, true => k (.ptr (.loc d) 0) (st.loc.set d (.cells ((E.T.get e).lf.map zeroD))) ((d, some d) :: la)
      | _, _ => False
    | none => False
  | .makeSlice t x y, none => match o.dst with
    | some d => match (E.T.get t).el, st.eval x, st.eval y with
      | some e, .v (.int _) m, .v (.int _) m' => match inL ks d && Nat.blt 0 (E.T.get e).lf.length && (E.T.get e).lf.all K.isData with
        | true => 0 ≤ m.int ∧ m'.int = m.int ∧ m.int ≤ lim ∧ k (.osl (.loc d) m.int.toNat) (st.loc.set d (.row e (zeroRow (E.T.get e).lf m.int.toNat))) ((d, some d) :: la)
        | false => False
      | _, _, _ => False
    | none => False
  | .buildSlice t 0 parts, none => match o.dst with
    | some d => match (E.T.get t).el, parts.toList, inL ks d && E.lit d with
      | some e, [], true => match Nat.blt 0 (E.T.get e).lf.length with
        | true => k (.osl (.loc d) 0) (st.loc.set d (.row e [])) ((d, some d) :: la)
        | false => False
      | _, _, _ => False
    | none => False
  | .store t (.tmp l) x, none => match ws with
   | _ :: _ => evLate E ks ws la o t l x st k
   | [] => match o.dst, st.tmps.getD l .undef, st.loc.getD l .dead with
    | none, .ptr (.loc l') 0, .cells cs =>
      match Nat.beq l l' && inL ks l && laIs la l l && Nat.beq (st.eval x).cells.length (E.T.get t).lf.length && Nat.beq cs.length (E.T.get t).lf.length && Nat.blt 0 (E.T.get t).lf.length && (st.eval x).cells.all D.isCell && !(D.anyL (Ref.isIn ks) (st.eval x).cells) with
      | true => k .skip (st.loc.set l (.cells (st.eval x).cells)) ((l, none) :: la)
      | false => False
    | _, _, _ => False
  | .call c, none => match c.callee, c.args.toList, c.argTypes.toList with
    | .builtin .append, [.tmp p, y], [t, t'] => match o.dst, (E.T.get t).el, st.tmps.getD p .undef with
      | some d, some e, .osl (.loc l) n => match inL ks l && laIs la l p && Nat.beq t t' && Nat.blt 0 (E.T.get e).lf.length with
        | true => withRow (st.loc.getD l .dead) e n fun xs => srcOf e ⟨st.tmps, base⟩ H (st.eval y) fun ys => n + ys.length ≤ lim ∧ k (.osl (.loc l) (n + ys.length)) (st.loc.set l (.row e (xs ++ ys))) ((l, some d) :: la)
        | false => False
      | _, _, _ => False
    | _, _, _ => evPureK E base ks la o st H k
  | .move (.tmp p), none => k (st.tmps.getD p .undef) st.loc la
  | .assign (.tmp p), none => k (st.tmps.getD p .undef) st.loc la
  | _, _ => evPureK E base ks la o st H k
def evHead (E:Env) (ops:Array Oper) (base:Nat→List Obj) (ks:List Nat) (ws:Nat→List Nat) (H:Heap):List Oper→Nat→List (Nat×Option Nat)→St→(St→Prop)→Prop
 | [],_,_,st,q=>q st
 | o::r,i,sl,st,q =>
  let go:D→List Obj→List (Nat×Option Nat)→Prop:=fun d loc sl=>match isGuard i ops.toList,d with
   | true,.v .bool x=>iff x.bool (evHead E ops base ks ws H r (i+1) sl ⟨(st.put o.dst (.v .bool (.b true))).tmps,loc⟩ q) (evHead E ops base ks ws H r (i+1) sl ⟨(st.put o.dst (.v .bool (.b false))).tmps,loc⟩ q)
   | true,_=>False
   | false,d=>evHead E ops base ks ws H r (i+1) sl ⟨(st.put o.dst d).tmps,loc⟩ q
  match o.guard with
  | none=>evHeadOp E (base i) ks (ws i) sl o st H go
  | some (j,want)=>match (ops[j]?).bind (·.dst) with
   | none=>False
   | some g=>match st.tmps.getD g .undef with
    | .v .bool (.b x)=>match x,want with
     | true,true=>evHeadOp E (base i) ks (ws i) sl o st H go
     | false,false=>evHeadOp E (base i) ks (ws i) sl o st H go
     | _,_=>evHead E ops base ks ws H r (i+1) sl (st.put o.dst .skip) q
    | .skip=>evHead E ops base ks ws H r (i+1) sl (st.put o.dst .skip) q
    | _=>False
def maskOf:List Nat→Nat
 | []=>0
 | x::r=>Nat.lor (2 ^ x) (maskOf r)
def maskAfter (tab:List Nat):List Edge→Nat
 | []=>0
 | e::r=>match Region.binds .any e with
  | true=>Nat.lor (Nat.lor (2 ^ e.on) (tab.getD e.on 0)) (maskAfter tab r)
  | false=>maskAfter tab r
def reachTab:List Oper→List Nat→List Nat
 | [],tab=>tab
 | o::r,tab=>reachTab r (tab++[maskAfter tab o.after.toList])
structure DRow where
 dst:Option Nat
 looks:Nat
 reach:Nat
def dRow (ops:Array Oper) (o:Oper) (m:Nat):DRow:=⟨o.dst,maskOf (o.looksAt ops),m⟩
def confl (d:Option Nat) (m:Nat):Bool:=match d with | some d=>m.testBit d | none=>false
def sameDst:Option Nat→Option Nat→Bool | some a,some b=>Nat.beq a b | _,_=>false
def pairOk (i:Nat) (a b:DRow):Bool:=!(sameDst a.dst b.dst)&&((!(confl a.dst b.looks)&&!(confl b.dst a.looks))||b.reach.testBit i)
def againstAll (b:DRow):Nat→List DRow→Bool
 | _,[]=>true
 | i,a::r=>pairOk i a b&&againstAll b (i+1) r
def pairsOk (pre:List DRow):List DRow→Bool
 | []=>true
 | b::r=>againstAll b 0 pre&&pairsOk (pre++[b]) r
def backOk:Nat→List Oper→Bool
 | _,[]=>true
 | i,o::r=>o.after.toList.all (fun e=>!(Region.binds .any e)||Nat.blt e.on i)&&backOk (i+1) r
def reachesAll (fs:List Nat) (n m:Nat):Bool:=(List.range n).all fun i=>m.testBit i||inL fs i
def freeAll (ops:Array Oper) (o:Oper) (i:Nat):Nat→List Oper→Bool
 | _,[]=>true
 | j,x::r=>(Nat.beq i j||x.after.toList.any (fun e=>Region.binds .any e&&Nat.beq e.on i)||o.apart ops x)&&freeAll ops o i (j+1) r
def isCopy (o:Oper):Bool:=match o.op with | .move _=>true | .assign _=>true | _=>false
def fltOk1 (ops:Array Oper) (done:List Nat) (i:Nat):Bool :=
 match ops[i]? with
 | some o=>isCopy o&&o.guard.isNone&&o.after.toList.all (fun e=>!(Region.binds .any e)||inL done e.on)&&freeAll ops o i 0 ops.toList
 | none=>false
def fltsOk (ops:Array Oper) (n:Nat):List Nat→List Nat→Bool
 | [],_=>true
 | i::r,done=>Nat.blt i n&&!(inL done i)&&fltOk1 ops done i&&fltsOk ops n r (i::done)
def noSel (ops:Array Oper):Bool:=ops.toList.all fun o=>match o.op with | .select _ _=>false | _=>true
def headDone (n size:Nat):Array Bool:=((List.range size).map fun i=>Nat.blt i n).toArray
def drawB (ops:Array Oper) (n:Nat) (fs:List Nat):Bool :=
 Nat.ble n ops.toList.length&&backOk 0 ops.toList &&
 pairsOk [] ((List.zipWith (dRow ops) ops.toList (reachTab ops.toList [])).take n) &&
 ((reachTab ops.toList []).drop n).all (reachesAll fs n)&&(noSel ops&&fltsOk ops n fs []) &&
 Region.seqB .any ops (ops.toList.length - n) n (headDone n ops.toList.length)
def killsOf:List Oper→List Nat
 | []=>[]
 | o::r=>match o.op,o.dst with | .alloc _,some d=>d::killsOf r | .makeSlice _ _ _,some d=>d::killsOf r | .buildSlice _ 0 _,some d=>d::killsOf r | _,_=>killsOf r
def isFld (st:St) (o:Oper):Bool:=match o.op with
 | .fieldAddr _ (.tmp t) _=>match st.tmps.getD t .undef with | .ptr _ _=>true | _=>false
 | _=>false
def freeNow (ops:Array Oper) (st:St) (i:Nat):Bool:=match ops[i]? with
 | some o=>(isCopy o||isFld st o)&&o.guard.isNone&&freeAll ops o i 0 ops.toList
 | none=>false
def pickFree (ops:Array Oper) (st:St):List Nat→Option Nat
 | []=>none
 | i::r=>match freeNow ops st i with | true=>some i | false=>pickFree ops st r
def allOf (f:Nat→Prop):List Nat→Prop
 | []=>True
 | i::r=>f i∧allOf f r
def evStep (E:Env) (ops:Array Oper) (i:Nat) (st:St) (H:Heap) (q:St→Heap→Prop):Prop:=match ops[i]? with
 | some o=>match o.guard with
  | none=>evOp E o st H fun d st H=>q (st.put o.dst d) H
  | some _=>False
 | none=>False
def evStepP (E:Env) (ops:Array Oper) (i:Nat) (st:St) (H:Heap) (q:St→Heap→Prop):Prop:=match ops[i]? with
 | some o=>match o.guard with
  | none=>evOp E o st H fun d st H=>postF E o.dst (st.put o.dst d) fun st=>q st H
  | some _=>False
 | none=>False
def evEvery (E:Env) (ops:Array Oper):Nat→Array Bool→St→Heap→(St→Heap→Prop)→Prop
 | 0,listed,st,H,q=>match Region.ready .any ops listed with | []=>q st H | _::_=>False
 | f+1,listed,st,H,q=>match Region.ready .any ops listed with
  | []=>q st H
  | l=>match pickFree ops st l with
   | some i=>evStep E ops i st H fun st H=>evEvery E ops f (listed.setIfInBounds i true) st H q
   | none=>match l with
    | [i]=>evStepP E ops i st H fun st H=>evEvery E ops f (listed.setIfInBounds i true) st H q
    | l=>allOf (fun i=>evStepP E ops i st H fun st H=>evEvery E ops f (listed.setIfInBounds i true) st H q) l
inductive Ex where | n | x (id:Nat) | r
abbrev Post:=Ex→St→Heap→Prop
def seqK (g:St→St) (f:St→Heap→Post→Prop) (Q:Post):Post:=fun e st H=>let _:=hbb; match e with | .n=>f (g st) H Q | .x id=>Q (.x id) st H | .r=>Q .r st H
def blockK (id:Nat) (Q:Post):Post:=fun e st H=>match e with | .n=>Q .n st H | .x j=>(match Nat.beq j id with | true=>Q .n st H | false=>Q (.x j) st H) | .r=>Q .r st H
def loopK (g:St→St) (f:St→Heap→Prop) (Q:Post):Post:=fun e st H=>let _:=hbb; match e with | .n=>f (g st) H | .x id=>Q (.x id) st H | .r=>Q .r st H
def iter (g:St→St) (f:St→Heap→Post→Prop) (Q:Post):Nat→St→Heap→Prop
 | 0,_,_=>False
 | m+1,st,H=>f st H (loopK g (iter g f Q m) Q)
def joinM (f:St→Heap→Post→Prop) (st:St) (H:Heap) (Q:Post):Prop:=f st H Q
def joinIf (b:Bool) (f:St→Heap→Post→Prop):St→Heap→Post→Prop:=match b with | true=>joinM f | false=>f
def opDefer (o:Oper):Bool:=match o.op with | .defer _=>true | _=>false
def noDefer:Code→Bool
 | .region _ ops _=>!ops.toList.any opDefer
 | .seq a b | .cond _ a b=>noDefer a&&noDefer b
 | .block _ c | .loop c | .scope c=>noDefer c
 | .rangeFunc _ _ _ _=>false
 | _=>true
def okRound:List Obj→List Obj→Bool
 | [],[]=>true
 | o::r,o'::r'=>allIn o.refs o'.refs&&okRound r r'
 | _,_=>false
def putAll (ts:List D):List Nat→List D→List D
 | p::ps,d::ds=>putAll (ts.set p d) ps ds
 | _,_=>ts
def rangeR (fa fb:St→Heap→Post→Prop) (ps:List Nat) (g:List V→List D) (os:List Obj) (tm:List D) (lo:List Obj) (K:Ex→Heap→Prop):List (List V)→Heap→Prop
 | [],H=>K .n H
 | x::xs,H=>match Nat.beq (g x).length ps.length&&!(D.anyL (fun _=>true) (g x)) with
  | false=>False
  | true=>fa ⟨putAll tm ps (g x),lo⟩ H fun e st1 H1=>match e with
   | .n=>fb st1 H1 fun e st2 H2=>match okRound os H2 with
    | false=>False
    | true=>(match e with
     | .n=>rangeR fa fb ps g os tm lo K xs H2
     | .x id=>K (.x id) H2
     | .r=>K .r H2)
   | _=>False
def rangeS (fa fb:St→Heap→Post→Prop) (ps:List Nat) (g:List V→List D) (os:List Obj) (tm:List D) (lo:List Obj) (K:Ex→Heap→Prop):Nat→List (List V)→Heap→Prop
 | 0,_,H=>K .n H
 | n+1,xs,H=>∀ i:Nat,i<xs.length→match Nat.beq (g (xs.getD i [])).length ps.length&&!(D.anyL (fun _=>true) (g (xs.getD i []))) with
  | false=>False
  | true=>fa ⟨putAll tm ps (g (xs.getD i [])),lo⟩ H fun e st1 H1=>match e with
   | .n=>fb st1 H1 fun e st2 H2=>match okRound os H2 with
    | false=>False
    | true=>(match e with
     | .n=>rangeS fa fb ps g os tm lo K n (xs.eraseIdx i) H2
     | .x id=>K (.x id) H2
     | .r=>K .r H2)
   | _=>False
def outR (E:Env) (rs:List Ref) (st:St) (H:Heap) (Q:Ex→St→Heap→Prop):Ex→Heap→Prop:=fun e H2=>Q e (updLoc rs H2 st) (updOwn rs H2 H)
def evCode (E : Env) : Code → St → Heap → Post → Prop
  | .skip, st, H, Q => Q .n st H
  | .seq a b, st, H, Q => evCode E a st H (seqK (adj (E.adj (3000000 + key b))) (joinIf (E.join (key b)) (evCode E b)) Q)
  | .cond c a b, st, H, Q => match st.eval c with
    | .v .bool x => iff x.bool (evCode E a st H Q) (evCode E b st H Q)
    | _ => False
  | .block id c, st, H, Q => evCode E c st H (blockK id Q)
  | .exit id, st, H, Q => Q (.x id) st H
  | .ret, st, H, Q => Q .r st H
  | .loop c, st, H, Q => ∃ m, iter (adj (E.adj (key c))) (evCode E c) Q m (adj (E.adj (key c)) st) H
  | .region id ops false, st, H, Q => evFrz (E.frz id) st fun st => evOps E ops ops.toList st H fun st H => Q .n st H
  | .region id ops true, st0, H, Q => evFrz (E.frz id) st0 fun st => match E.lit (6000000 + id) with
   | true => (match noSel ops with
    | true => evEvery E ops ops.size (Array.replicate ops.size false) st H fun st H => Q .n st H
    | false => False)
   | false => match drawB ops (E.cut id) (E.flt id) with
    | true =>
      let ks := killsOf (ops.toList.take (E.cut id))
      let st1 := adj (ks.map .dead) st
      evHead E ops (lateBase (reachTab ops.toList []) (E.late id) st1.loc) ks (lateWs (E.late id)) H (ops.toList.take (E.cut id)) 0 [] st1 fun st2 => evOps E ops (ops.toList.drop (E.cut id)) st2 H fun st H => Q .n st H
    | false => False
  | .rangeFunc g ps a b, st0, H, Q =>
    let st := adj (E.adj (key b)) st0
    let rs := rsOf st H st.tmps
    match st.eval g, okRefs st H rs st.tmps && noDefer a && noDefer b with
    | .fn f caps, true => match E.ent f, D.anyL (fun _ => true) caps with
      | true, false => match E.anyI f with
        | false => ∃ rows, E.iter f caps rows ∧ rangeR (evCode E a) (evCode E b) ps.toList (E.row f) (objsOf st H rs) (D.mapRL (renR rs) st.tmps) (List.replicate st.loc.length .dead)
          (fun e H2 => Q e (updLoc rs H2 st) (updOwn rs H2 H)) rows (objsOf st H rs)
        | true => ∃ rows, E.iter f caps rows ∧ rangeS (evCode E a) (evCode E b) ps.toList (E.row f) (objsOf st H rs) (D.mapRL (renR rs) st.tmps) (List.replicate st.loc.length .dead)
          (fun e H2 => Q e (updLoc rs H2 st) (updOwn rs H2 H)) rows.length rows (objsOf st H rs)
      | _, _ => False
    | _, _ => False
  | _, _, _, _ => False
def resOf (T:Tab) (st:St):ResultVar→D
 | .tmp t=>st.tmps.getD t .undef
 | .cell a t=>match st.tmps.getD a .undef with
  | .ptr (.loc i) 0=>match st.loc.getD i .dead,Nat.beq (st.loc.getD i .dead).cs.length (T.get t).lf.length with
   | .cells cs,true=>mkVal T t cs
   | _,_=>.undef
  | _=>.undef
mutual
def frz (L:List Obj):D→D
 | .osl (.loc i) n=>match L.getD i .dead with
  | .row e xs=>.v (.sl e) (.l xs)
  | _=>.osl (.loc i) n
 | .mp (.loc i)=>match L.getD i .dead with
  | .map m xs=>.v (.mp m) (.l xs)
  | _=>.mp (.loc i)
 | .agg cs=>.agg (frzL L cs)
 | .tup cs=>.tup (frzL L cs)
 | d=>d
def frzL (L:List Obj):List D→List D
 | []=>[]
 | d::r=>frz L d::frzL L r
end
mutual
def frzOk (L:List Obj):D→Prop
 | .osl (.loc i) n=>n=(L.getD i .dead).xs.length
 | .agg cs=>frzOkL L cs
 | .tup cs=>frzOkL L cs
 | _=>True
def frzOkL (L:List Obj):List D→Prop
 | []=>True
 | d::r=>frzOk L d∧frzOkL L r
end
def resOk (T:Tab) (st:St):ResultVar→Bool
 | .tmp _=>true
 | .cell a t=>match st.tmps.getD a .undef with
  | .ptr (.loc i) 0=>match st.loc.getD i .dead with
   | .cells cs=>Nat.beq cs.length (T.get t).lf.length&&Nat.blt 0 (T.get t).lf.length
   | _=>false
  | _=>false
def resD (T:Tab) (fn:Func) (st:St):D :=
 match fn.results.toList with
 | [r]=>resOf T st r
 | rs=>.tup (rs.map (resOf T st))
def keepOk (b:Bool) (L:List Obj) (d:D):Bool:=match b with
 | false=>true
 | true=>match d with
  | .osl (.loc i) _=>(match L.getD i .dead with | .row _ _=>true | _=>false)
  | _=>false
def endK (E:Env) (fn:Func) (Q:D→Heap→Prop):Post:=fun e st H=>match e with
 | .x _=>False
 | _=>match fn.results.toList.all (resOk E.T st),D.local (frz st.loc (resD E.T fn st)),keepOk E.keep st.loc (resD E.T fn st) with
  | true,false,true=>frzOk st.loc (resD E.T fn st)∧Q (frz st.loc (resD E.T fn st)) H
  | _,_,_=>False
def evFn (E:Env) (fn:Func) (extra:Nat) (args:List D) (H:Heap) (Q:D→Heap→Prop):Prop :=
 match fn.body with
 | none=>False
 | some c=>evCode E c (adj (E.adj 1000000) ⟨args++List.replicate (fn.ntmps - args.length) .skip,List.replicate (fn.ntmps+extra) .dead⟩) H (endK E fn Q)
def codeAt:List Nat→Code→Code
 | 0::r,.seq a _=>codeAt r a
 | 1::r,.seq _ b=>codeAt r b
 | 0::r,.cond _ a _=>codeAt r a
 | 1::r,.cond _ _ b=>codeAt r b
 | 0::r,.block _ c=>codeAt r c
 | 0::r,.loop c=>codeAt r c
 | 0::r,.rangeFunc _ _ a _=>codeAt r a
 | 1::r,.rangeFunc _ _ _ b=>codeAt r b
 | [],c=>c
 | _,_=>.skip
def fnAt (l:List Nat) (fn:Func):Code:=match fn.body with | some c=>codeAt l c | none=>.skip
end Go.Abs
namespace Go.Abs
def shaped (ag:Bool) (v:Value):Prop:=match ag with | true=>∃ us,v=.agg us | false=>v.oneCell'=true
def entCells (x:MapEntry):List Value:=x.key.cells.toList++x.val.cells.toList
structure MapOk (m:MT) (lf:TypeId→List K) (ents:Array MapEntry) (clock:Nat) (us:Nat→Nat→Value):Prop where
 clk:clock=ents.size
 born:∀ (i:Nat) (x:MapEntry),ents[i]?=some x→x.born=i
 key:∀ (i:Nat) (x:MapEntry),ents[i]?=some x→x.key.cells.size=(lf m.k).length∧shaped m.ka x.key
 val:∀ (i:Nat) (x:MapEntry),ents[i]?=some x→x.val.cells.size=(lf m.e).length∧shaped m.ea x.val
 cells:∀ (i:Nat) (x:MapEntry),ents[i]?=some x→∀ j,j<(lf m.k++lf m.e).length→(entCells x).getD j undef=us i j
inductive RepK (lf:TypeId→List K) (w:World) (F:Nat→Prop):K→V→Value→Prop
 | int (k:IntKind) (x:V):RepK lf w F (.int k) x (.int k x.int)
 | bool (x:V):RepK lf w F .bool x (.bool x.bool)
 | str (x:V):x.str.size≤big→RepK lf w F .str x (.string x.str)
 | sl0 (e:TypeId) (x:V) (A:Option Addr) (c:Nat):x.list=[]→RepK lf w F (.sl e) x (.slice A 0 c)
 | sl (e:TypeId) (x:V) (b off c:Nat) (us:Nat→Nat→Value):F b→(x.list.length≤c∧c≤big)→(∀ i,i<x.list.length→(x.list.getD i []).length=(lf e).length) →
   (∀ i j,i<x.list.length→j<(lf e).length→w.cell? ⟨b,off+i*(lf e).length+j,none⟩=some (us i j)) →
   (∀ i j,i<x.list.length→j<(lf e).length→RepK lf w F ((lf e).getD j .oth) ((x.list.getD i []).getD j V.none) (us i j)) →
   RepK lf w F (.sl e) x (.slice (some ⟨b,off,none⟩) x.list.length c)
 | mp0 (m:MT) (x:V):x.list=[]→RepK lf w F (.mp m) x (.map none)
 | mp (m:MT) (x:V) (b clock:Nat) (ents:Array MapEntry) (us:Nat→Nat→Value):F b→w.heap[b]?=some (.map ents clock)→MapOk m lf ents clock us→ents.size=x.list.length →
   (∀ i,i<x.list.length→(x.list.getD i []).length=(lf m.k++lf m.e).length) →
   (∀ i j,i<x.list.length→j<(lf m.k++lf m.e).length→RepK lf w F ((lf m.k++lf m.e).getD j .oth) ((x.list.getD i []).getD j V.none) (us i j)) →
   RepK lf w F (.mp m) x (.map (some b))
theorem RepK.mono {lf : TypeId → List K} {w w' : World} {F F' : Nat → Prop} (hF : ∀ b, F b → F' b) (hw : ∀ b, F b → w'.heap[b]? = w.heap[b]?)
    {k : K} {x : V} {u : Value} (h : RepK lf w F k x u) : RepK lf w' F' k x u := by
  induction h with
  | int k x => exact .int k x
  | bool x => exact .bool x
  | str x h => exact .str x h
  | sl0 e x A c h => exact .sl0 e x A c h
  | sl e x b off c us hb hc hlen hcell _ ih =>
    exact .sl e x b off c us (hF b hb) hc hlen (fun i j hi hj => by rw [← hcell i j hi hj]; exact World.cell?_of_block (hw b hb)) ih
  | mp0 m x h => exact .mp0 m x h
  | mp m x b clock ents us hb hh hm hs hlen _ ih => exact .mp m x b clock ents us (hF b hb) ((hw b hb).trans hh) hm hs hlen ih
theorem RepK.one {lf:TypeId→List K} {w:World} {F:Nat→Prop} {k:K} {x:V} {u:Value} (h:RepK lf w F k x u):u.oneCell'=true:=by
 cases h <;> rfl
structure Sig where
 w:World
 F:Nat→Prop
 H:List Obj
 mu:List (Option (Nat×Nat))
 L:List Obj
 la:List (Option (Nat×Nat))
 mks:List Nat:=[]   -- the blocks that ranges over functions have left for deferred calls
def Sig.blk (S:Sig):Ref→Option (Nat×Nat)
 | .loc i=>S.la.getD i none
 | .own i=>S.mu.getD i none
def Sig.obj (S:Sig):Ref→Obj
 | .loc i=>S.L.getD i .dead
 | .own i=>S.H.getD i .dead
def Sig.inb (S:Sig):Ref→Prop
 | .loc _=>True
 | .own i=>i<S.H.length
def rowVal (n:Nat) (bc:Option (Nat×Nat)):Value :=
 match bc with
 | none=>.slice none 0 0
 | some (b,c)=>.slice (some ⟨b,0,none⟩) n c
inductive RepD (lf:TypeId→List K) (S:Sig):D→Value→Prop
 | v (k:K) (x:V) (u:Value):RepK lf S.w S.F k x u→RepD lf S (.v k x) u
 | nil:RepD lf S .nil (.slice none 0 0)
 | agg (cs:List D) (us:List Value):cs.length=us.length→(∀ j,RepD lf S (cs.getD j .undef) (us.getD j undef))→RepD lf S (.agg cs) (.agg us.toArray)
 | tup (cs:List D) (us:List Value):cs.length=us.length→(∀ j,RepD lf S (cs.getD j .undef) (us.getD j undef))→RepD lf S (.tup cs) (.tuple us.toArray)
 | ptr (r:Ref) (off:Nat) (u:Value):(S.inb r∧u.oneCell'=true)→(∀ bc,(S.obj r).isPt=true→S.blk r=some bc→u=.pointer (some ⟨bc.1,off,none⟩))→RepD lf S (.ptr r off) u
 | elt (e:TypeId) (cs:List V) (off b o:Nat) (us:Nat→Value):S.F b→(∀ j,j<(lf e).length→S.w.cell? ⟨b,o+j,none⟩=some (us j)) →
   (∀ j,j<(lf e).length→RepK lf S.w S.F ((lf e).getD j .oth) (cs.getD j V.none) (us j))→RepD lf S (.elt e cs off) (.pointer (some ⟨b,o+off,none⟩))
 | relt (r:Ref) (e:TypeId) (n i off:Nat) (u:Value):(S.inb r∧u.oneCell'=true)→(∀ e' xs,S.obj r=.row e' xs→n≤xs.length∧(n=xs.length→∀ bc,S.blk r=some bc→u=.pointer (some ⟨bc.1,i*(lf e).length+off,none⟩)))→RepD lf S (.relt r e n i off) u
 | osl (r:Ref) (n:Nat) (u:Value):(S.inb r∧u.oneCell'=true)→(∀ e xs,S.obj r=.row e xs→n≤xs.length∧(n=xs.length→u=rowVal n (S.blk r)))→RepD lf S (.osl r n) u
 | mp (r:Ref) (u:Value):(S.inb r∧u.oneCell'=true)→(∀ m xs,S.obj r=.map m xs→∀ bc,S.blk r=some bc→u=.map (some bc.1))→RepD lf S (.mp r) u
 | fn (f:FuncId) (caps:List D) (us:List Value):caps.length=us.length→(∀ j,RepD lf S (caps.getD j .undef) (us.getD j undef))→RepD lf S (.fn f caps) (.func (.func f) #[] us.toArray)
 | ln (n:Nat) (A:Option Addr) (c:Nat):n≤big→RepD lf S (.ln n) (.slice A n c)
 | skip:RepD lf S .skip undef
 | undef (u:Value):RepD lf S .undef u
structure Keep (S S':Sig) (r:Ref):Prop where
 cells:∀ bc,(S'.obj r).isPt=true→S'.blk r=some bc→(S.obj r).isPt=true∧S.blk r=some bc
 row:∀ e xs,S'.obj r=.row e xs→∃ xs0,S.obj r=.row e xs0∧xs0.length≤xs.length∧(xs0.length=xs.length→S'.blk r=S.blk r)
 map:∀ m xs,S'.obj r=.map m xs→∃ xs0,S.obj r=.map m xs0∧S'.blk r=S.blk r
theorem Keep.refl {S S':Sig} {r:Ref} (ho:S'.obj r=S.obj r) (hb:S'.blk r=S.blk r):Keep S S' r :=
 ⟨fun bc h1 h2=>⟨ho▸h1,hb▸h2⟩,fun e xs h=>⟨xs,ho▸h,Nat.le_refl _,fun _=>hb⟩,fun m xs h=>⟨xs,ho▸h,hb⟩⟩
theorem Keep.trans {S S' S'' : Sig} {r : Ref} (h : Keep S S' r) (k : Keep S' S'' r) : Keep S S'' r :=
  ⟨fun bc h1 h2 => by
    obtain ⟨a, b⟩ := k.cells bc h1 h2
    exact h.cells bc a b,
   fun e xs h1 => by
    obtain ⟨xs1, a, b, c⟩ := k.row e xs h1
    obtain ⟨xs0, a', b', c'⟩ := h.row e xs1 a
    exact ⟨xs0, a', by omega, fun he => (c (by omega)).trans (c' (by omega))⟩,
   fun m xs h1 => by
    obtain ⟨xs1, a, b⟩ := k.map m xs h1
    obtain ⟨xs0, a', b'⟩ := h.map m xs1 a
    exact ⟨xs0, a', b.trans b'⟩⟩
theorem anyL_getD {p:Ref→Bool}:∀ {l:List D} (j:Nat),D.anyL p l=false→D.anyR p (l.getD j .undef)=false
 | [],j,_=>by simp [D.anyR]
 | d::r,j,h=>by
  simp only [D.anyL] at h
  cases hd:D.anyR p d with
  | true=>rw [hd] at h; cases h
  | false =>
   rw [hd] at h
   cases j with
   | zero=>exact hd
   | succ j=>exact anyL_getD (l:=r) j h
theorem Sig.inb_mono {S S':Sig} (h:S.H.length≤S'.H.length) {r:Ref} (hr:S.inb r):S'.inb r:=by
 cases r with
 | loc i=>trivial
 | own i=>exact Nat.lt_of_lt_of_le hr h
theorem RepD.mono {lf:TypeId→List K} {S S':Sig} (hlen:S.H.length≤S'.H.length) (hF:∀ b,S.F b→S'.F b) (hw:∀ b,S.F b→S'.w.heap[b]?=S.w.heap[b]?) {p:Ref→Bool}
  (hp:∀ r,p r=false→S.inb r→Keep S S' r) {d:D} {u:Value} (hd:D.anyR p d=false) (h:RepD lf S d u):RepD lf S' d u:=by
 induction h with
 | v k x u h=>exact .v k x u (h.mono hF hw)
 | nil=>exact .nil
 | agg cs us hl _ ih=>exact .agg cs us hl fun j=>ih j (anyL_getD j (by simpa [D.anyR] using hd))
 | tup cs us hl _ ih=>exact .tup cs us hl fun j=>ih j (anyL_getD j (by simpa [D.anyR] using hd))
 | ptr r off u h1 h =>
  have k:=hp r (by simpa [D.anyR] using hd) h1.1
  exact .ptr r off u ⟨Sig.inb_mono hlen h1.1,h1.2⟩ fun bc h1 h2=>by
   obtain ⟨a,b⟩:=k.cells bc h1 h2
   exact h bc a b
 | elt e cs off b o us hb hc hr =>
  exact .elt e cs off b o us (hF b hb) (fun j hj=>by rw [← hc j hj]; exact World.cell?_of_block (hw b hb)) fun j hj=>(hr j hj).mono hF hw
 | relt r e n i off u h1 h =>
  have k:=hp r (by simpa [D.anyR] using hd) h1.1
  exact .relt r e n i off u ⟨Sig.inb_mono hlen h1.1,h1.2⟩ fun e' xs h1=>by
   obtain ⟨xs0,a,b,c⟩:=k.row e' xs h1
   obtain ⟨h2,h3⟩:=h e' xs0 a
   exact ⟨by omega,fun he bc hbc=>h3 (by omega) bc (by rw [← c (by omega)]; exact hbc)⟩
 | osl r n u h1 h =>
  have k:=hp r (by simpa [D.anyR] using hd) h1.1
  exact .osl r n u ⟨Sig.inb_mono hlen h1.1,h1.2⟩ fun e xs h1=>by
   obtain ⟨xs0,a,b,c⟩:=k.row e xs h1
   obtain ⟨h2,h3⟩:=h e xs0 a
   exact ⟨by omega,fun he=>by rw [c (by omega)]; exact h3 (by omega)⟩
 | mp r u h1 h =>
  have k:=hp r (by simpa [D.anyR] using hd) h1.1
  exact .mp r u ⟨Sig.inb_mono hlen h1.1,h1.2⟩ fun m xs h1 bc h2=>by
   obtain ⟨xs0,a,b⟩:=k.map m xs h1
   exact h m xs0 a bc (by rw [← b]; exact h2)
 | fn f caps us hl _ ih=>exact .fn f caps us hl fun j=>ih j (anyL_getD j (by simpa [D.anyR] using hd))
 | ln n A c h=>exact .ln n A c h
 | skip=>exact .skip
 | undef u=>exact .undef u
theorem RepD.one {lf:TypeId→List K} {S:Sig} {d:D} {u:Value} (hd:d.isCell=true) (h:RepD lf S d u):u.oneCell'=true:=by
 cases h with
 | v k x u h=>exact h.one
 | nil=>rfl
 | agg=>cases hd
 | tup=>cases hd
 | ptr _ _ _ h=>exact h.2
 | elt=>rfl
 | relt _ _ _ _ _ _ h=>exact h.2
 | osl _ _ _ h=>exact h.2
 | mp _ _ h=>exact h.2
 | fn=>rfl
 | ln=>rfl
 | skip=>cases hd
 | undef=>cases hd
theorem cells_of_one {u:Value} (h:u.oneCell'=true):u.cells=#[u]:=by
 cases u <;> first | rfl | cases h
theorem RepD.cells {lf:TypeId→List K} {S:Sig} {d:D} {u:Value} (hd:d.cells.all D.isCell=true) (h:RepD lf S d u) :
  u.cells.size=d.cells.length∧∀ j,j<d.cells.length→RepD lf S (d.cells.getD j .undef) (u.cells.getD j Go.undef)∧(u.cells.getD j Go.undef).oneCell'=true:=by
 by_cases hc:∃ cs,d=.agg cs
 ·obtain ⟨cs,rfl⟩:=hc
  cases h with
  | agg _ us hl hr =>
   refine ⟨by simp [Value.cells,D.cells,hl],fun j hj=>?_⟩
   have h1:=hr j
   have e:us.toArray.getD j Go.undef=us.getD j Go.undef:=by
    rw [Array.getD_eq_getD_getElem?,List.getD_eq_getElem?_getD,List.getElem?_toArray]
   show RepD lf S (cs.getD j .undef) (us.toArray.getD j Go.undef)∧(us.toArray.getD j Go.undef).oneCell'=true
   rw [e]
   have hj':j<cs.length:=hj
   have h2:(cs.getD j .undef).isCell=true:=by
    rw [List.getD_eq_getElem?_getD,List.getElem?_eq_getElem hj']
    exact List.all_eq_true.1 hd _ (List.getElem_mem hj')
   exact ⟨h1,h1.one h2⟩
 ·have hcs:d.cells=[d]:=by
   cases d <;> first | rfl | exact absurd ⟨_,rfl⟩ hc
  rw [hcs] at hd ⊢
  have h1:d.isCell=true:=by simpa using hd
  rw [cells_of_one (h.one h1)]
  refine ⟨rfl,fun j hj=>?_⟩
  have hj':j=0:=by simp at hj; omega
  subst hj'
  exact ⟨h,h.one h1⟩
def ObjRep (lf:TypeId→List K) (S:Sig) (o:Obj) (bc:Option (Nat×Nat)):Prop :=
 match o with
 | .cells cs=>∃ b c e arr,bc=some (b,c)∧S.w.heap[b]?=some (.cells arr e (0,0))∧arr.size=cs.length ∧
   ∀ j,j<cs.length→RepD lf S (cs.getD j .undef) (arr.getD j undef)∧(arr.getD j undef).oneCell'=true
 | .row e xs=>(bc=none∧xs=[])∨∃ b c arr,bc=some (b,c)∧S.w.heap[b]?=some (.cells arr e (0,0))∧arr.size=c*(lf e).length∧xs.length≤c∧c≤maxLen∧(∀ i,i<xs.length→(xs.getD i []).length=(lf e).length) ∧
   ∀ i j,i<xs.length→j<(lf e).length→RepK lf S.w S.F ((lf e).getD j .oth) ((xs.getD i []).getD j V.none) (arr.getD (i*(lf e).length+j) undef)
 | .map m xs=>∃ b c clock ents us,bc=some (b,c)∧S.w.heap[b]?=some (.map ents clock)∧MapOk m lf ents clock us∧ents.size=xs.length∧(∀ i,i<xs.length→(xs.getD i []).length=(lf m.k++lf m.e).length) ∧
   ∀ i j,i<xs.length→j<(lf m.k++lf m.e).length→RepK lf S.w S.F ((lf m.k++lf m.e).getD j .oth) ((xs.getD i []).getD j V.none) (us i j)
 | .iter m x n seen=>∃ b c mb,bc=some (b,c)∧S.w.heap[b]?=some (.mapIter mb n seen.reverse.toArray n)∧RepD lf S x (.map mb)∧seen.Nodup∧(∀ j∈seen,j<n)
 | .dead=>bc=none
def Obj.free:Obj→Prop
 | .cells cs=>D.localL cs=false
 | .iter _ _ _ _=>False
 | _=>True
structure Wf (lf:TypeId→List K) (S:Sig):Prop where
 frozen:∀ b,S.F b→b<S.w.heap.size∧∀ r bc,S.blk r=some bc→bc.1≠b
 inj:∀ r r' bc bc',S.blk r=some bc→S.blk r'=some bc'→bc.1=bc'.1→r=r'
 lt:∀ r bc,S.blk r=some bc→bc.1<S.w.heap.size
 obj:∀ r,ObjRep lf S (S.obj r) (S.blk r)
 own:∀ i,(S.H.getD i .dead).free
 mulen:S.mu.length=S.H.length
 lalen:S.la.length=S.L.length
 mark:S.mks.Nodup∧∀ d∈S.mks,S.w.heap[d]?=some (.deferred (some []))∧(∀ r bc,S.blk r=some bc→bc.1≠d)∧¬ S.F d
structure Ext (S S':Sig):Prop where
 size:S.w.heap.size≤S'.w.heap.size
 os:S'.w.os=S.w.os
 tape:S'.w.tape=S.w.tape
 output:S'.w.output=S.w.output
 block:∀ b,b<S.w.heap.size→(∀ i bc,S.blk (.own i)=some bc→bc.1≠b)→S'.w.heap[b]?=S.w.heap[b]?∧∀ i bc,S'.blk (.own i)=some bc→bc.1≠b
 F:∀ b,S.F b→S'.F b
 Fnew:∀ b,b<S.w.heap.size→S'.F b→S.F b∨∃ i bc,S.blk (.own i)=some bc∧bc.1=b
 len:S.H.length≤S'.H.length
 keep:∀ i,i<S.H.length→Keep S S' (.own i)
 fresh:∀ i bc',S'.blk (.own i)=some bc'→(∃ bc,S.blk (.own i)=some bc∧bc'.1=bc.1)∨S.w.heap.size≤bc'.1
theorem Ext.refl (S:Sig):Ext S S :=
 ⟨Nat.le_refl _,rfl,rfl,rfl,fun b _ h=>⟨rfl,h⟩,fun _ h=>h,fun _ _ h=>.inl h,Nat.le_refl _,fun _ _=>.refl rfl rfl,fun _ bc h=>.inl ⟨bc,h,rfl⟩⟩
theorem Ext.trans {S S' S'':Sig} (hm:S'.mu.length=S'.H.length) (h:Ext S S') (k:Ext S' S''):Ext S S'':=by
 refine ⟨Nat.le_trans h.size k.size,k.os.trans h.os,k.tape.trans h.tape,k.output.trans h.output,fun b hb hn=>?_,fun b hb=>k.F b (h.F b hb),fun b hb hF=>?_,Nat.le_trans h.len k.len,fun i hi=>?_,fun i bc'' h2=>?_⟩
 ·obtain ⟨h1,h2⟩:=h.block b hb hn
  obtain ⟨k1,k2⟩:=k.block b (Nat.lt_of_lt_of_le hb h.size) h2
  exact ⟨k1.trans h1,k2⟩
 ·rcases k.Fnew b (Nat.lt_of_lt_of_le hb h.size) hF with hF' | ⟨i,bc,h1,h2⟩
  ·exact h.Fnew b hb hF'
  ·by_cases hx:∃ i bc,S.blk (.own i)=some bc∧bc.1=b
   ·exact .inr hx
   ·exact absurd h2 ((h.block b hb (fun i bc h3 h4=>hx ⟨i,bc,h3,h4⟩)).2 i bc h1)
 ·exact (h.keep i hi).trans (k.keep i (Nat.lt_of_lt_of_le hi h.len))
 ·rcases k.fresh i bc'' h2 with ⟨bc',h3,e1⟩ | h3
  ·rcases h.fresh i bc' h3 with ⟨bc,h4,e2⟩ | h4
   ·exact .inl ⟨bc,h4,e1.trans e2⟩
   ·right; rw [e1]; exact h4
  ·exact .inr (Nat.le_trans h.size h3)
def marks (S:Sig):List Deferred:=S.mks.map fun d=>{ target:=.collected d,args:=#[] }
structure Rel (lf:TypeId→List K) (st:St) (H:Heap) (a:Act) (S:Sig):Prop where
 H:S.H=H
 L:S.L=st.loc
 size:a.tmps.size=st.tmps.length
 defers:a.defers=marks S
 rep:∀ j,RepD lf S (st.tmps.getD j .undef) (a.tmps.getD j undef)
 wf:Wf lf S
structure Inv (S0 S:Sig):Prop where
 ext:Ext S0 S
 loc:∀ i bc,S.blk (.loc i)=some bc→S0.w.heap.size≤bc.1
 mkd:∀ d∈S.mks,S0.w.heap.size≤d
def AFresh (P:Program) (lf:TypeId→List K) (f:FuncId) (args:List D) (e:TypeId) (xs:List (List V)):Prop :=
 ∀ (S:Sig) (vs:List Value),Wf lf S→args.length=vs.length→(∀ j,RepD lf S (args.getD j .undef) (vs.getD j undef)) →
  Calls P f vs.toArray S.w fun r w'=>∃ v,r=.returned v∧S.w.grownBy w' none∧((xs=[]∧v=.slice none 0 0)∨∃ b c arr,S.w.heap.size≤b∧v=.slice (some ⟨b,0,none⟩) xs.length c∧w'.heap[b]?=some (.cells arr e (0,0)) ∧
   arr.size=c*(lf e).length∧xs.length≤c∧c≤maxLen∧(∀ i,i<xs.length→(xs.getD i []).length=(lf e).length) ∧
   ∀ i j,i<xs.length→j<(lf e).length→RepK lf S.w S.F ((lf e).getD j .oth) ((xs.getD i []).getD j V.none) (arr.getD (i*(lf e).length+j) undef))
def ACalls (P:Program) (lf:TypeId→List K) (f:FuncId) (args:List D) (H:Heap) (Q:D→Heap→Prop):Prop :=
 ∀ (S:Sig) (vs:List Value),S.H=H→S.L=[]→S.la=[]→S.mks=[]→Wf lf S→args.length=vs.length→(∀ j,RepD lf S (args.getD j .undef) (vs.getD j undef))→D.localL args=false →
  Calls P f vs.toArray S.w fun e w'=>∃ v r S',e=.returned v∧S'.w=w'∧S'.L=[]∧S'.la=[]∧S'.mks=[]∧Wf lf S'∧RepD lf S' r v∧D.local r=false∧Ext S S'∧Q r S'.H
theorem ACalls.mono {P:Program} {lf:TypeId→List K} {f:FuncId} {args:List D} {H:Heap} {Q Q':D→Heap→Prop} (h:ACalls P lf f args H Q) (hq:∀ r H',Q r H'→Q' r H'):ACalls P lf f args H Q' :=
 fun S vs h1 h2 h3 h4 h5 h6 h7 h8=>(h S vs h1 h2 h3 h4 h5 h6 h7 h8).mono fun _ _ ⟨v,r,S',a,b,c,d,e,f,g,i,k,j⟩=>⟨v,r,S',a,b,c,d,e,f,g,i,k,hq _ _ j⟩
end Go.Abs
