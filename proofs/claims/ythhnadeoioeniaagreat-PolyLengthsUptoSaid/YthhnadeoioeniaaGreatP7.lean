/-
  Texts AbsG, AbsL of this proof, joined.
-/
import Derived.IntWalk
import Derived.Test.YthhnadeoioeniaaGreatP6
set_option linter.unusedVariables false
set_option linter.unusedSimpArgs false
namespace Go.Abs
def zeroOk:K→Value→Bool
 | .int k,.int k' n=>decide (k=k')&&decide (n=0)
 | .bool,.bool b=>!b
 | .str,.string s=>decide (s.size=0)
 | .sl _,.slice none 0 0=>true
 | .mp _,v=>v.oneCell'
 | .oth,v=>v.oneCell'
 | _,_=>false
def zerosOk:List K→List Value→Bool
 | [],[]=>true
 | k::r,v::s=>zeroOk k v&&zerosOk r s
 | _,_=>false
def fldsOk (P:Program) (T:Tab):List (Nat×TypeId)→List Field→Bool
 | [],[]=>true
 | (o,t)::r,f::s=>Nat.beq f.offset o&&Nat.beq f.type t&&Nat.beq (P.cellsOf t) (T.get t).lf.length&&(P.info? t).isSome&&fldsOk P T r s
 | _,_=>false
def noExtra (x:TI):Bool:=x.ar.isNone&&x.mp.isNone
def aggOk (P:Program) (T:Tab) (t:TypeId) (ag:Bool):Bool :=
 match P.underlying t with
 | some (.struct _) | some (.array _ _)=>ag
 | some _=>!ag
 | none=>false
def descOk (P:Program) (T:Tab) (x:TI):Option TypeDesc→Bool
 | some (.struct fs)=>x.agg&&fldsOk P T x.flds fs.toList&&x.el.isNone&&decide (x.kd=.oth)&&noExtra x
 | some (.array n e)=>x.agg&&x.flds.isEmpty&&x.el.isNone&&decide (x.kd=.oth)&&(x.mp.isNone&&decide (x.ar=some (n,e)))
 | some (.slice e)=>!x.agg&&x.flds.isEmpty&&decide (x.el=some e)&&decide (x.kd=.sl e)&&noExtra x
 | some (.int k)=>!x.agg&&x.flds.isEmpty&&x.el.isNone&&decide (x.kd=.int k)&&noExtra x
 | some .bool=>!x.agg&&x.flds.isEmpty&&x.el.isNone&&decide (x.kd=.bool)&&noExtra x
 | some .string=>!x.agg&&x.flds.isEmpty&&x.el.isNone&&decide (x.kd=.str)&&noExtra x
 | some (.map k e)=>!x.agg&&x.flds.isEmpty&&x.el.isNone&&(x.ar.isNone&&match x.mp with
  | none=>decide (x.kd=.oth)
  | some m=>decide (x.kd=.mp m)&&Nat.beq m.k k&&Nat.beq m.e e&&aggOk P T k m.ka&&aggOk P T e m.ea)
 | some _=>!x.agg&&x.flds.isEmpty&&x.el.isNone&&decide (x.kd=.oth)&&noExtra x
 | none=>false
def shapeOk (ag:Bool):Value→Bool
 | .agg _=>ag
 | v=>!ag&&v.oneCell'
theorem shapeOk_spec {ag:Bool} {v:Value} (h:shapeOk ag v=true):shaped ag v:=by
 unfold shapeOk at h
 split at h
 ·subst h; exact ⟨_,rfl⟩
 ·simp only [Bool.and_eq_true,Bool.not_eq_true'] at h
  rw [h.1]; exact h.2
def tiOk (P:Program) (T:Tab) (x:TI):Bool :=
 match P.info? x.t with
 | none=>false
 | some i=>match i.zero with
  | none=>false
  | some z=>descOk P T x (P.underlying x.t)&&Nat.beq i.size x.lf.length&&zerosOk x.lf z.cells.toList&&Nat.ble i.bytes 256&&(x.agg||Nat.beq x.lf.length 1)&&decide ((T.get x.t).lf=x.lf)&&shapeOk x.agg z
theorem zerosOk_spec:∀ (l:List K) (vs:List Value),zerosOk l vs=true→vs.length=l.length∧∀ (lf':TypeId→List K) (S:Sig) (j:Nat),j<l.length→RepD lf' S (zeroD (l.getD j .oth)) (vs.getD j undef)∧(vs.getD j undef).oneCell'=true
 | [],[],_=>⟨rfl,fun _ _ j hj=>by simp at hj⟩
 | [],_::_,h=>by simp [zerosOk] at h
 | _::_,[],h=>by simp [zerosOk] at h
 | k::r,v::s,h=>by
  obtain ⟨h1,h2⟩:zeroOk k v=true∧zerosOk r s=true:=by simpa [zerosOk] using h
  obtain ⟨g1,g2⟩:=zerosOk_spec r s h2
  refine ⟨by simp [g1],fun lf' S j hj=>?_⟩
  cases j with
  | succ j=>exact g2 lf' S j (by simpa using hj)
  | zero =>
   show RepD lf' S (zeroD k) v∧v.oneCell'=true
   unfold zeroOk at h1
   split at h1
   ·rename_i k1 k2 n
    obtain ⟨e1,e2⟩:k1=k2∧n=0:=by simpa using h1
    subst e1 e2
    exact ⟨RepD.mkInt 0,rfl⟩
   ·rename_i b
    have:b=false:=by simpa using h1
    subst this
    exact ⟨RepD.mkBool false,rfl⟩
   ·rename_i s
    have hs:s.size=0:=by simpa using h1
    have:s=⟨#[]⟩:=by
     obtain ⟨d⟩:=s
     have:d=#[]:=Array.eq_empty_of_size_eq_zero hs
     rw [this]
    subst this
    exact ⟨RepD.mkStr _ (Nat.zero_le _),rfl⟩
   ·exact ⟨.nil,rfl⟩
   ·exact ⟨.undef _,h1⟩
   ·exact ⟨.undef _,h1⟩
   ·cases h1
theorem fldsOk_spec {P:Program} {T:Tab}:∀ (l:List (Nat×TypeId)) (fs:List Field),fldsOk P T l fs=true→∀ (i o:Nat) (t:TypeId),l[i]?=some (o,t)→∃ f:Field,fs[i]?=some f∧f.offset=o∧f.type=t∧P.cellsOf t=(T.get t).lf.length∧(P.info? t).isSome=true
 | [],_,_,i,o,t,h=>by simp at h
 | _::_,[],h,_,_,_,_=>by simp [fldsOk] at h
 | (o',t')::r,f::s,h,i,o,t,hi=>by
  obtain ⟨⟨⟨⟨h1,h2⟩,h3⟩,h4⟩,h5⟩:(((f.offset=o'∧f.type=t')∧P.cellsOf t'=(T.get t').lf.length)∧(P.info? t').isSome=true)∧fldsOk P T r s=true:=by simpa [fldsOk] using h
  cases i with
  | zero =>
   simp at hi
   obtain ⟨rfl,rfl⟩:=hi
   exact ⟨f,rfl,h1,h2,h3,h4⟩
  | succ i=>exact fldsOk_spec r s h5 i o t (by simpa using hi)
theorem fldsOk_all {P:Program} {T:Tab}:∀ (l:List (Nat×TypeId)) (fs:List Field),fldsOk P T l fs=true→∀ f∈fs,(P.info? f.type).isSome=true
 | [],[],_,f,hf=>by simp at hf
 | [],_::_,h,_,_=>by simp [fldsOk] at h
 | _::_,[],h,_,_=>by simp [fldsOk] at h
 | (o',t')::r,f0::s,h,f,hf=>by
  obtain ⟨⟨⟨⟨h1,h2⟩,h3⟩,h4⟩,h5⟩:(((f0.offset=o'∧f0.type=t')∧P.cellsOf t'=(T.get t').lf.length)∧(P.info? t').isSome=true)∧fldsOk P T r s=true:=by simpa [fldsOk] using h
  rcases List.mem_cons.1 hf with rfl | hf
  ·rw [h2]; exact h4
  ·exact fldsOk_all r s h5 f hf
theorem fldsOk_exact {P:Program} {T:Tab}:∀ (l:List (Nat×TypeId)) (fs:List Field),fldsOk P T l fs=true→fs.map (fun f=>(f.offset,f.type))=l
 | [],[],_=>rfl
 | [],_::_,h=>by simp [fldsOk] at h
 | _::_,[],h=>by simp [fldsOk] at h
 | (o',t')::r,f::s,h=>by
  obtain ⟨⟨⟨⟨h1,h2⟩,h3⟩,h4⟩,h5⟩:(((f.offset=o'∧f.type=t')∧P.cellsOf t'=(T.get t').lf.length)∧(P.info? t').isSome=true)∧fldsOk P T r s=true:=by simpa [fldsOk] using h
  simp [h1,h2,fldsOk_exact r s h5]
theorem run_places {P:Program} (w:World):∀ (fs:List Field),(∀ f∈fs,(P.info? f.type).isSome=true) →
  ((fs.mapM (fun f=>do pure (f.offset,← sizeOf f.type):Field→Sem (Nat×Nat)))).run P w=.ok (fs.map fun f=>(f.offset,P.cellsOf f.type)) w
 | [],_=>rfl
 | f::r,h=>by
  obtain ⟨i,hi⟩:=Option.isSome_iff_exists.1 (h f (by simp))
  have hs:(sizeOf f.type).run P w=.ok (P.cellsOf f.type) w:=run_sizeOf w hi
  rw [List.mapM_cons]
  simp only [Sem.run_bind,hs,Result.andThen_ok,run_places w r (fun f hf=>h f (by simp [hf])),show ∀ (α:Type) (x:α),(pure x:Sem α).run P w=.ok x w from fun _ _=>rfl]
  rfl
theorem descOk_el {P:Program} {T:Tab} {x:TI} {d:Option TypeDesc} {e:TypeId} (h:descOk P T x d=true) (he:x.el=some e):d=some (.slice e):=by
 unfold descOk at h; split at h <;> simp_all
theorem descOk_ar {P:Program} {T:Tab} {x:TI} {d:Option TypeDesc} {n:Nat} {e:TypeId} (h:descOk P T x d=true) (he:x.ar=some (n,e)):d=some (.array n e):=by
 unfold descOk at h; split at h <;> simp_all [noExtra]
theorem descOk_mp {P:Program} {T:Tab} {x:TI} {d:Option TypeDesc} {m:MT} (h:descOk P T x d=true) (he:x.mp=some m):d=some (.map m.k m.e)∧aggOk P T m.k m.ka=true∧aggOk P T m.e m.ea=true:=by
 unfold descOk at h; split at h <;> simp_all [noExtra]
theorem descOk_kb {P:Program} {T:Tab} {x:TI} {d:Option TypeDesc} (h:descOk P T x d=true) (he:x.kd=.bool):d=some .bool:=by
 unfold descOk at h; split at h <;> simp_all
 cases hm:x.mp <;> simp_all
theorem descOk_ki {P:Program} {T:Tab} {x:TI} {d:Option TypeDesc} {k:IntKind} (h:descOk P T x d=true) (he:x.kd=.int k):d=some (.int k):=by
 unfold descOk at h; split at h <;> simp_all
 cases hm:x.mp <;> simp_all
theorem descOk_ks {P:Program} {T:Tab} {x:TI} {d:Option TypeDesc} (h:descOk P T x d=true) (he:x.kd=.str):d=some .string:=by
 unfold descOk at h; split at h <;> simp_all
 cases hm:x.mp <;> simp_all
theorem descOk_flds {P:Program} {T:Tab} {x:TI} {d:Option TypeDesc} (h:descOk P T x d=true) (he:x.flds≠[]):∃ fs,d=some (.struct fs)∧fldsOk P T x.flds fs.toList=true:=by
 unfold descOk at h; split at h <;> simp_all
def aggD:TypeDesc→Bool | .struct _ | .array _ _=>true | _=>false
theorem descOk_agg {P:Program} {T:Tab} {x:TI} {d:Option TypeDesc} (h:descOk P T x d=true):∃ y,d=some y∧aggD y=x.agg:=by
 unfold descOk at h; split at h <;> simp_all [aggD]
theorem run_isAgg {P:Program} {t:TypeId} {d:TypeDesc} {b:Bool} (hd:P.underlying t=some d) (he:aggD d=b) (w:World):(isAgg t).run P w=.ok b w:=by
 have hu:=run_underlying hd w
 simp only [isAgg,Sem.run_bind,hu,Result.andThen_ok]
 cases d <;> simp_all [aggD] <;> rfl
theorem aggOk_run {P:Program} {T:Tab} {t:TypeId} {b:Bool} (h:aggOk P T t b=true) (w:World):(isAgg t).run P w=.ok b w:=by
 unfold aggOk at h
 cases hd:P.underlying t with
 | none=>rw [hd] at h; cases h
 | some d =>
  rw [hd] at h
  exact run_isAgg hd (by cases d <;> simp_all [aggD]) w
theorem tiOk_spec {P:Program} {T:Tab} {x:TI} (h:tiOk P T x=true):TOk P (fun t=>(T.get t).lf) x:=by
 unfold tiOk at h
 split at h
 ·cases h
 ·rename_i i hi
  split at h
  ·cases h
  ·rename_i z hz
   obtain ⟨⟨⟨⟨⟨⟨h1,h2⟩,h3⟩,h4⟩,h5⟩,h6⟩,h7⟩:(((((descOk P T x (P.underlying x.t)=true∧i.size=x.lf.length)∧zerosOk x.lf z.cells.toList=true)∧i.bytes≤256)∧(x.agg=true∨x.lf.length=1))∧(T.get x.t).lf=x.lf)∧shapeOk x.agg z=true:=by simpa using h
   obtain ⟨z1,z2⟩:=zerosOk_spec _ _ h3
   have z1':z.cells.size=x.lf.length:=by simpa using z1
   have hzz:∀ w,(zeroValue x.t).run P w=.ok z w:=fun w=>by
    simp [zeroValue,typeInfo,hi,hz,program,Sem.run,pure]
   refine {
    lfs:=h6
    size:=fun w=>by simp [sizeOf,typeInfo,hi,h2,program,Sem.run,pure]
    agg:=?_
    one:=fun ha=>by
     rcases h5 with h5 | h5
     ·rw [ha] at h5; cases h5
     ·exact h5
    el:=fun e he=>descOk_el h1 he
    ar:=fun n e he=>descOk_ar h1 he
    mp:=fun m hm=>by
     obtain ⟨g1,g2,g3⟩:=descOk_mp h1 hm
     exact ⟨g1,aggOk_run g2,aggOk_run g3⟩
    kb:=fun hk=>descOk_kb h1 hk
    ki:=fun k hk=>descOk_ki h1 hk
    ks:=fun hk=>descOk_ks h1 hk
    flds:=fun hf=>?_
    fexact:=fun hf=>by
     obtain ⟨fs,hd,hok⟩:=descOk_flds h1 hf
     exact ⟨fs,hd,fldsOk_exact _ _ hok⟩
    places:=fun hf=>?_
    info:=⟨i,z,hi,hz,h2,z1',h4⟩
    zshape:=fun z' w hz'=>by
     rw [hzz w] at hz'
     injection hz' with hz' _
     rw [← hz']
     exact shapeOk_spec h7
    zero:=⟨z,hzz,z1',fun lf' S j hj=>?_⟩ }
   ·obtain ⟨y,g1,g2⟩:=descOk_agg h1
    exact run_isAgg g1 g2
   ·obtain ⟨fs,hd,hok⟩:=descOk_flds h1 hf
    refine ⟨fs,hd,fun i o t hi=>?_⟩
    obtain ⟨f,f1,f2,f3,_⟩:=fldsOk_spec _ _ hok i o t hi
    exact ⟨f,by simpa using f1,f2,f3⟩
   ·obtain ⟨fs,hd,hok⟩:=descOk_flds h1 hf
    refine ⟨fs,(fs.toList.map fun f=>(f.offset,P.cellsOf f.type)).toArray,hd,fun w=>?_,fun i o t hi=>?_⟩
    ·have e:fs=fs.toList.toArray:=by simp
     have:=run_places (P:=P) w fs.toList (fldsOk_all _ _ hok)
     rw [e,List.mapM_toArray,Sem.run_map,this]
     simp
    ·obtain ⟨f,f1,f2,f3,f4,_⟩:=fldsOk_spec _ _ hok i o t hi
     simp only [List.getElem?_toArray,List.getElem?_map,f1,Option.map_some,f2,f3,f4]
   ·obtain ⟨g1,g2⟩:=z2 lf' S j hj
    have e2:z.cells.toList.getD j undef=z.cells.getD j undef:=by simp [List.getD_eq_getElem?_getD,Array.getD_eq_getD_getElem?]
    rw [e2] at g1 g2
    exact ⟨g1,g2⟩
theorem tabOk_of {P:Program} {T:Tab} (h:T.all (tiOk P T)=true):TabOk P T:=⟨fun x hx=>tiOk_spec (List.all_eq_true.1 h x hx)⟩
theorem iff_yes {b:Bool} {p q:Prop} (hb:b=true) (h:p):iff b p q:=by subst hb; exact h
theorem iff_no {b:Bool} {p q:Prop} (hb:b=false) (h:q):iff b p q:=by subst hb; exact h
theorem wrap_next (k:Nat) (h:k<big):IntKind.i64.wrap ((k:Int)+(1:Int))=((k+1:Nat):Int):=by
 have hb:(k:Int)+1≤9223372036854775807:=by unfold big at h; omega
 rw [IntWalk.i64_in _ ⟨by omega,hb⟩]
 omega
def adjLook (l:List (Nat×List Adj)) (k:Nat):List Adj :=
 match l with
 | []=>[]
 | (a,b)::r=>match Nat.beq a k with | true=>b | false=>adjLook r k
abbrev CutT:=List (Nat×Nat×List Nat×List (Nat×Nat))
def cutLook (l:CutT) (k:Nat):Nat :=
 match l with
 | []=>0
 | (a,b,_,_)::r=>match Nat.beq a k with | true=>b | false=>cutLook r k
def fltLook (l:CutT) (k:Nat):List Nat :=
 match l with
 | []=>[]
 | (a,_,b,_)::r=>match Nat.beq a k with | true=>b | false=>fltLook r k
def lateLook (l:CutT) (k:Nat):List (Nat×Nat) :=
 match l with
 | []=>[]
 | (a,_,_,b)::r=>match Nat.beq a k with | true=>b | false=>lateLook r k
def frzLook (l:List (Nat×List Frz)) (k:Nat):List Frz :=
 match l with
 | []=>[]
 | (a,b)::r=>match Nat.beq a k with | true=>b | false=>frzLook r k
def entOk (P:Program) (f:FuncId):Bool:=match P.funcs[f]? with | some fn=>fn.body.isSome&&!(fn.name == "runtime.NumGoroutine") | none=>false
theorem ent_of {P:Program} {f:FuncId} (h:entOk P f=true) (args:Array Value) (w:World):(callFunc f args).run P w=.ok (.enter f args) w:=by
 unfold entOk at h
 split at h
 ·rename_i fn hf
  obtain ⟨h1,h2⟩:fn.body.isSome=true∧¬ fn.name = "runtime.NumGoroutine" := by simpa using h
  obtain ⟨c,hc⟩:=Option.isSome_iff_exists.1 h1
  simp [callFunc,hf,h2,hc,mark,program,Sem.run,pure]
 ·cases h
end Go.Abs
namespace Go.Abs
abbrev LL:=List (List V)
abbrev QD:=D→Heap→Prop
def un:Nat→List D→List D | 0,l=>l | n+1,l=>.undef::un n l
def sk:Nat→List D→List D | 0,l=>l | n+1,l=>.skip::sk n l
def dd:Nat→List Obj→List Obj | 0,l=>l | n+1,l=>.dead::dd n l
def ua:Nat→Nat→List Adj→List Adj | _,0,l=>l | a,n+1,l=>.undef a::ua (a+1) n l
def da:Nat→Nat→List Adj→List Adj | _,0,l=>l | a,n+1,l=>.dead a::da (a+1) n l
def seqJ (E:Env) (c:Code) (Q:Post):Post:=seqK (adj (E.adj (3000000+key c))) (joinIf (E.join (key c)) (evCode E c)) Q
theorem afresh2 {P:Program} {E:Env} (hE:EnvOk P E) {f:FuncId} {fn:Func} (extra:Nat) {args:List D} {e:TypeId} {xs:List (List V)} {R:Prop} (hkp:E.keep=true) (hflat:(lfs E.T e).all K.isKey=true) (harg:D.anyL (fun _=>true) args=false) (hf:P.funcs[f]?=some fn) (ev:evFn E fn extra args [] (fun d _=>d=.v (.sl e) (.l xs))=R) (h:R):AFresh P (lfs E.T) f args e xs:=afresh_of_fn hE hkp extra hflat harg hf (ev▸h)
theorem acalls2 {P:Program} {E:Env} (hE:EnvOk P E) {f:FuncId} {fn:Func} (extra:Nat) {args:List D} {H:Heap} {Q:QD} {R:Prop} (hf:P.funcs[f]?=some fn) (e:evFn E fn extra args H Q=R) (h:R):ACalls P (lfs E.T) f args H Q:=acalls_of_fn hE extra hf (e▸h)
abbrev RuleG3 {A0 A1 A2:Type} (lp st:Nat→A0→A1→A2→Prop):Prop:=∀ (I:A0→A1→A2→Prop) (μ:A0→A1→A2→Nat),
  (∀ a0 a1 a2,I a0 a1 a2→∀ m:Nat,(∀ b0 b1 b2,I b0 b1 b2→μ b0 b1 b2<μ a0 a1 a2→lp m b0 b1 b2)→st m a0 a1 a2)→∀ a0 a1 a2,I a0 a1 a2→∃ m,lp m a0 a1 a2
theorem ruleG3 {A0 A1 A2:Type} (lp st:Nat→A0→A1→A2→Prop) (h:∀ m a0 a1 a2,lp (m+1) a0 a1 a2=st m a0 a1 a2):RuleG3 lp st:=fun I μ hs=>by
 have key:∀ (n:Nat) a0 a1 a2,μ a0 a1 a2<n→I a0 a1 a2→lp n a0 a1 a2:=by
  intro n
  induction n with
  | zero=>intro a0 a1 a2 hm; exact absurd hm (Nat.not_lt_zero _)
  | succ n ih =>
   intro a0 a1 a2 hm hi
   rw [h]
   exact hs a0 a1 a2 hi n fun b0 b1 b2 hq hlt=>ih b0 b1 b2 (Nat.lt_of_lt_of_le hlt (Nat.le_of_lt_succ hm)) hq
 intro a0 a1 a2 hi
 exact ⟨μ a0 a1 a2+1,key _ a0 a1 a2 (Nat.lt_succ_self _) hi⟩
abbrev RuleG4 {A0 A1 A2 A3:Type} (lp st:Nat→A0→A1→A2→A3→Prop):Prop:=∀ (I:A0→A1→A2→A3→Prop) (μ:A0→A1→A2→A3→Nat),
  (∀ a0 a1 a2 a3,I a0 a1 a2 a3→∀ m:Nat,(∀ b0 b1 b2 b3,I b0 b1 b2 b3→μ b0 b1 b2 b3<μ a0 a1 a2 a3→lp m b0 b1 b2 b3)→st m a0 a1 a2 a3)→∀ a0 a1 a2 a3,I a0 a1 a2 a3→∃ m,lp m a0 a1 a2 a3
theorem ruleG4 {A0 A1 A2 A3:Type} (lp st:Nat→A0→A1→A2→A3→Prop) (h:∀ m a0 a1 a2 a3,lp (m+1) a0 a1 a2 a3=st m a0 a1 a2 a3):RuleG4 lp st:=fun I μ hs=>by
 have key:∀ (n:Nat) a0 a1 a2 a3,μ a0 a1 a2 a3<n→I a0 a1 a2 a3→lp n a0 a1 a2 a3:=by
  intro n
  induction n with
  | zero=>intro a0 a1 a2 a3 hm; exact absurd hm (Nat.not_lt_zero _)
  | succ n ih =>
   intro a0 a1 a2 a3 hm hi
   rw [h]
   exact hs a0 a1 a2 a3 hi n fun b0 b1 b2 b3 hq hlt=>ih b0 b1 b2 b3 (Nat.lt_of_lt_of_le hlt (Nat.le_of_lt_succ hm)) hq
 intro a0 a1 a2 a3 hi
 exact ⟨μ a0 a1 a2 a3+1,key _ a0 a1 a2 a3 (Nat.lt_succ_self _) hi⟩
abbrev RuleG5 {A0 A1 A2 A3 A4:Type} (lp st:Nat→A0→A1→A2→A3→A4→Prop):Prop:=∀ (I:A0→A1→A2→A3→A4→Prop) (μ:A0→A1→A2→A3→A4→Nat),
  (∀ a0 a1 a2 a3 a4,I a0 a1 a2 a3 a4→∀ m:Nat,(∀ b0 b1 b2 b3 b4,I b0 b1 b2 b3 b4→μ b0 b1 b2 b3 b4<μ a0 a1 a2 a3 a4→lp m b0 b1 b2 b3 b4)→st m a0 a1 a2 a3 a4)→∀ a0 a1 a2 a3 a4,I a0 a1 a2 a3 a4→∃ m,lp m a0 a1 a2 a3 a4
theorem ruleG5 {A0 A1 A2 A3 A4:Type} (lp st:Nat→A0→A1→A2→A3→A4→Prop) (h:∀ m a0 a1 a2 a3 a4,lp (m+1) a0 a1 a2 a3 a4=st m a0 a1 a2 a3 a4):RuleG5 lp st:=fun I μ hs=>by
 have key:∀ (n:Nat) a0 a1 a2 a3 a4,μ a0 a1 a2 a3 a4<n→I a0 a1 a2 a3 a4→lp n a0 a1 a2 a3 a4:=by
  intro n
  induction n with
  | zero=>intro a0 a1 a2 a3 a4 hm; exact absurd hm (Nat.not_lt_zero _)
  | succ n ih =>
   intro a0 a1 a2 a3 a4 hm hi
   rw [h]
   exact hs a0 a1 a2 a3 a4 hi n fun b0 b1 b2 b3 b4 hq hlt=>ih b0 b1 b2 b3 b4 (Nat.lt_of_lt_of_le hlt (Nat.le_of_lt_succ hm)) hq
 intro a0 a1 a2 a3 a4 hi
 exact ⟨μ a0 a1 a2 a3 a4+1,key _ a0 a1 a2 a3 a4 (Nat.lt_succ_self _) hi⟩
abbrev RuleG6 {A0 A1 A2 A3 A4 A5:Type} (lp st:Nat→A0→A1→A2→A3→A4→A5→Prop):Prop:=∀ (I:A0→A1→A2→A3→A4→A5→Prop) (μ:A0→A1→A2→A3→A4→A5→Nat),
  (∀ a0 a1 a2 a3 a4 a5,I a0 a1 a2 a3 a4 a5→∀ m:Nat,(∀ b0 b1 b2 b3 b4 b5,I b0 b1 b2 b3 b4 b5→μ b0 b1 b2 b3 b4 b5<μ a0 a1 a2 a3 a4 a5→lp m b0 b1 b2 b3 b4 b5)→st m a0 a1 a2 a3 a4 a5)→∀ a0 a1 a2 a3 a4 a5,I a0 a1 a2 a3 a4 a5→∃ m,lp m a0 a1 a2 a3 a4 a5
theorem ruleG6 {A0 A1 A2 A3 A4 A5:Type} (lp st:Nat→A0→A1→A2→A3→A4→A5→Prop) (h:∀ m a0 a1 a2 a3 a4 a5,lp (m+1) a0 a1 a2 a3 a4 a5=st m a0 a1 a2 a3 a4 a5):RuleG6 lp st:=fun I μ hs=>by
 have key:∀ (n:Nat) a0 a1 a2 a3 a4 a5,μ a0 a1 a2 a3 a4 a5<n→I a0 a1 a2 a3 a4 a5→lp n a0 a1 a2 a3 a4 a5:=by
  intro n
  induction n with
  | zero=>intro a0 a1 a2 a3 a4 a5 hm; exact absurd hm (Nat.not_lt_zero _)
  | succ n ih =>
   intro a0 a1 a2 a3 a4 a5 hm hi
   rw [h]
   exact hs a0 a1 a2 a3 a4 a5 hi n fun b0 b1 b2 b3 b4 b5 hq hlt=>ih b0 b1 b2 b3 b4 b5 (Nat.lt_of_lt_of_le hlt (Nat.le_of_lt_succ hm)) hq
 intro a0 a1 a2 a3 a4 a5 hi
 exact ⟨μ a0 a1 a2 a3 a4 a5+1,key _ a0 a1 a2 a3 a4 a5 (Nat.lt_succ_self _) hi⟩
abbrev RuleG7 {A0 A1 A2 A3 A4 A5 A6:Type} (lp st:Nat→A0→A1→A2→A3→A4→A5→A6→Prop):Prop:=∀ (I:A0→A1→A2→A3→A4→A5→A6→Prop) (μ:A0→A1→A2→A3→A4→A5→A6→Nat),
  (∀ a0 a1 a2 a3 a4 a5 a6,I a0 a1 a2 a3 a4 a5 a6→∀ m:Nat,(∀ b0 b1 b2 b3 b4 b5 b6,I b0 b1 b2 b3 b4 b5 b6→μ b0 b1 b2 b3 b4 b5 b6<μ a0 a1 a2 a3 a4 a5 a6→lp m b0 b1 b2 b3 b4 b5 b6)→st m a0 a1 a2 a3 a4 a5 a6)→∀ a0 a1 a2 a3 a4 a5 a6,I a0 a1 a2 a3 a4 a5 a6→∃ m,lp m a0 a1 a2 a3 a4 a5 a6
theorem ruleG7 {A0 A1 A2 A3 A4 A5 A6:Type} (lp st:Nat→A0→A1→A2→A3→A4→A5→A6→Prop) (h:∀ m a0 a1 a2 a3 a4 a5 a6,lp (m+1) a0 a1 a2 a3 a4 a5 a6=st m a0 a1 a2 a3 a4 a5 a6):RuleG7 lp st:=fun I μ hs=>by
 have key:∀ (n:Nat) a0 a1 a2 a3 a4 a5 a6,μ a0 a1 a2 a3 a4 a5 a6<n→I a0 a1 a2 a3 a4 a5 a6→lp n a0 a1 a2 a3 a4 a5 a6:=by
  intro n
  induction n with
  | zero=>intro a0 a1 a2 a3 a4 a5 a6 hm; exact absurd hm (Nat.not_lt_zero _)
  | succ n ih =>
   intro a0 a1 a2 a3 a4 a5 a6 hm hi
   rw [h]
   exact hs a0 a1 a2 a3 a4 a5 a6 hi n fun b0 b1 b2 b3 b4 b5 b6 hq hlt=>ih b0 b1 b2 b3 b4 b5 b6 (Nat.lt_of_lt_of_le hlt (Nat.le_of_lt_succ hm)) hq
 intro a0 a1 a2 a3 a4 a5 a6 hi
 exact ⟨μ a0 a1 a2 a3 a4 a5 a6+1,key _ a0 a1 a2 a3 a4 a5 a6 (Nat.lt_succ_self _) hi⟩
abbrev RuleG9 {A0 A1 A2 A3 A4 A5 A6 A7 A8:Type} (lp st:Nat→A0→A1→A2→A3→A4→A5→A6→A7→A8→Prop):Prop:=∀ (I:A0→A1→A2→A3→A4→A5→A6→A7→A8→Prop) (μ:A0→A1→A2→A3→A4→A5→A6→A7→A8→Nat),
  (∀ a0 a1 a2 a3 a4 a5 a6 a7 a8,I a0 a1 a2 a3 a4 a5 a6 a7 a8→∀ m:Nat,(∀ b0 b1 b2 b3 b4 b5 b6 b7 b8,I b0 b1 b2 b3 b4 b5 b6 b7 b8→μ b0 b1 b2 b3 b4 b5 b6 b7 b8<μ a0 a1 a2 a3 a4 a5 a6 a7 a8→lp m b0 b1 b2 b3 b4 b5 b6 b7 b8)→st m a0 a1 a2 a3 a4 a5 a6 a7 a8)→∀ a0 a1 a2 a3 a4 a5 a6 a7 a8,I a0 a1 a2 a3 a4 a5 a6 a7 a8→∃ m,lp m a0 a1 a2 a3 a4 a5 a6 a7 a8
theorem ruleG9 {A0 A1 A2 A3 A4 A5 A6 A7 A8:Type} (lp st:Nat→A0→A1→A2→A3→A4→A5→A6→A7→A8→Prop) (h:∀ m a0 a1 a2 a3 a4 a5 a6 a7 a8,lp (m+1) a0 a1 a2 a3 a4 a5 a6 a7 a8=st m a0 a1 a2 a3 a4 a5 a6 a7 a8):RuleG9 lp st:=fun I μ hs=>by
 have key:∀ (n:Nat) a0 a1 a2 a3 a4 a5 a6 a7 a8,μ a0 a1 a2 a3 a4 a5 a6 a7 a8<n→I a0 a1 a2 a3 a4 a5 a6 a7 a8→lp n a0 a1 a2 a3 a4 a5 a6 a7 a8:=by
  intro n
  induction n with
  | zero=>intro a0 a1 a2 a3 a4 a5 a6 a7 a8 hm; exact absurd hm (Nat.not_lt_zero _)
  | succ n ih =>
   intro a0 a1 a2 a3 a4 a5 a6 a7 a8 hm hi
   rw [h]
   exact hs a0 a1 a2 a3 a4 a5 a6 a7 a8 hi n fun b0 b1 b2 b3 b4 b5 b6 b7 b8 hq hlt=>ih b0 b1 b2 b3 b4 b5 b6 b7 b8 (Nat.lt_of_lt_of_le hlt (Nat.le_of_lt_succ hm)) hq
 intro a0 a1 a2 a3 a4 a5 a6 a7 a8 hi
 exact ⟨μ a0 a1 a2 a3 a4 a5 a6 a7 a8+1,key _ a0 a1 a2 a3 a4 a5 a6 a7 a8 (Nat.lt_succ_self _) hi⟩
abbrev RuleG10 {A0 A1 A2 A3 A4 A5 A6 A7 A8 A9:Type} (lp st:Nat→A0→A1→A2→A3→A4→A5→A6→A7→A8→A9→Prop):Prop:=∀ (I:A0→A1→A2→A3→A4→A5→A6→A7→A8→A9→Prop) (μ:A0→A1→A2→A3→A4→A5→A6→A7→A8→A9→Nat),
  (∀ a0 a1 a2 a3 a4 a5 a6 a7 a8 a9,I a0 a1 a2 a3 a4 a5 a6 a7 a8 a9→∀ m:Nat,(∀ b0 b1 b2 b3 b4 b5 b6 b7 b8 b9,I b0 b1 b2 b3 b4 b5 b6 b7 b8 b9→μ b0 b1 b2 b3 b4 b5 b6 b7 b8 b9<μ a0 a1 a2 a3 a4 a5 a6 a7 a8 a9→lp m b0 b1 b2 b3 b4 b5 b6 b7 b8 b9)→st m a0 a1 a2 a3 a4 a5 a6 a7 a8 a9)→∀ a0 a1 a2 a3 a4 a5 a6 a7 a8 a9,I a0 a1 a2 a3 a4 a5 a6 a7 a8 a9→∃ m,lp m a0 a1 a2 a3 a4 a5 a6 a7 a8 a9
theorem ruleG10 {A0 A1 A2 A3 A4 A5 A6 A7 A8 A9:Type} (lp st:Nat→A0→A1→A2→A3→A4→A5→A6→A7→A8→A9→Prop) (h:∀ m a0 a1 a2 a3 a4 a5 a6 a7 a8 a9,lp (m+1) a0 a1 a2 a3 a4 a5 a6 a7 a8 a9=st m a0 a1 a2 a3 a4 a5 a6 a7 a8 a9):RuleG10 lp st:=fun I μ hs=>by
 have key:∀ (n:Nat) a0 a1 a2 a3 a4 a5 a6 a7 a8 a9,μ a0 a1 a2 a3 a4 a5 a6 a7 a8 a9<n→I a0 a1 a2 a3 a4 a5 a6 a7 a8 a9→lp n a0 a1 a2 a3 a4 a5 a6 a7 a8 a9:=by
  intro n
  induction n with
  | zero=>intro a0 a1 a2 a3 a4 a5 a6 a7 a8 a9 hm; exact absurd hm (Nat.not_lt_zero _)
  | succ n ih =>
   intro a0 a1 a2 a3 a4 a5 a6 a7 a8 a9 hm hi
   rw [h]
   exact hs a0 a1 a2 a3 a4 a5 a6 a7 a8 a9 hi n fun b0 b1 b2 b3 b4 b5 b6 b7 b8 b9 hq hlt=>ih b0 b1 b2 b3 b4 b5 b6 b7 b8 b9 (Nat.lt_of_lt_of_le hlt (Nat.le_of_lt_succ hm)) hq
 intro a0 a1 a2 a3 a4 a5 a6 a7 a8 a9 hi
 exact ⟨μ a0 a1 a2 a3 a4 a5 a6 a7 a8 a9+1,key _ a0 a1 a2 a3 a4 a5 a6 a7 a8 a9 (Nat.lt_succ_self _) hi⟩
abbrev RuleG12 {A0 A1 A2 A3 A4 A5 A6 A7 A8 A9 A10 A11:Type} (lp st:Nat→A0→A1→A2→A3→A4→A5→A6→A7→A8→A9→A10→A11→Prop):Prop:=∀ (I:A0→A1→A2→A3→A4→A5→A6→A7→A8→A9→A10→A11→Prop) (μ:A0→A1→A2→A3→A4→A5→A6→A7→A8→A9→A10→A11→Nat),
  (∀ a0 a1 a2 a3 a4 a5 a6 a7 a8 a9 a10 a11,I a0 a1 a2 a3 a4 a5 a6 a7 a8 a9 a10 a11→∀ m:Nat,(∀ b0 b1 b2 b3 b4 b5 b6 b7 b8 b9 b10 b11,I b0 b1 b2 b3 b4 b5 b6 b7 b8 b9 b10 b11→μ b0 b1 b2 b3 b4 b5 b6 b7 b8 b9 b10 b11<μ a0 a1 a2 a3 a4 a5 a6 a7 a8 a9 a10 a11→lp m b0 b1 b2 b3 b4 b5 b6 b7 b8 b9 b10 b11)→st m a0 a1 a2 a3 a4 a5 a6 a7 a8 a9 a10 a11)→∀ a0 a1 a2 a3 a4 a5 a6 a7 a8 a9 a10 a11,I a0 a1 a2 a3 a4 a5 a6 a7 a8 a9 a10 a11→∃ m,lp m a0 a1 a2 a3 a4 a5 a6 a7 a8 a9 a10 a11
theorem ruleG12 {A0 A1 A2 A3 A4 A5 A6 A7 A8 A9 A10 A11:Type} (lp st:Nat→A0→A1→A2→A3→A4→A5→A6→A7→A8→A9→A10→A11→Prop) (h:∀ m a0 a1 a2 a3 a4 a5 a6 a7 a8 a9 a10 a11,lp (m+1) a0 a1 a2 a3 a4 a5 a6 a7 a8 a9 a10 a11=st m a0 a1 a2 a3 a4 a5 a6 a7 a8 a9 a10 a11):RuleG12 lp st:=fun I μ hs=>by
 have key:∀ (n:Nat) a0 a1 a2 a3 a4 a5 a6 a7 a8 a9 a10 a11,μ a0 a1 a2 a3 a4 a5 a6 a7 a8 a9 a10 a11<n→I a0 a1 a2 a3 a4 a5 a6 a7 a8 a9 a10 a11→lp n a0 a1 a2 a3 a4 a5 a6 a7 a8 a9 a10 a11:=by
  intro n
  induction n with
  | zero=>intro a0 a1 a2 a3 a4 a5 a6 a7 a8 a9 a10 a11 hm; exact absurd hm (Nat.not_lt_zero _)
  | succ n ih =>
   intro a0 a1 a2 a3 a4 a5 a6 a7 a8 a9 a10 a11 hm hi
   rw [h]
   exact hs a0 a1 a2 a3 a4 a5 a6 a7 a8 a9 a10 a11 hi n fun b0 b1 b2 b3 b4 b5 b6 b7 b8 b9 b10 b11 hq hlt=>ih b0 b1 b2 b3 b4 b5 b6 b7 b8 b9 b10 b11 (Nat.lt_of_lt_of_le hlt (Nat.le_of_lt_succ hm)) hq
 intro a0 a1 a2 a3 a4 a5 a6 a7 a8 a9 a10 a11 hi
 exact ⟨μ a0 a1 a2 a3 a4 a5 a6 a7 a8 a9 a10 a11+1,key _ a0 a1 a2 a3 a4 a5 a6 a7 a8 a9 a10 a11 (Nat.lt_succ_self _) hi⟩
theorem rangeG0 (n:Nat) (hb:n≤big) (J:Nat→Prop) (lp:Nat→Int→Prop) {S:Nat→Int→Prop} {E:Int→Prop} (h:∀ (m:Nat) (i:Int),lp (m+1) i=iff (decide (i<(n:Int))) (S m i) (E i))
  (step:∀ (k:Nat),k<n→J k→∀ m:Nat,(J (k+1)→lp m (IntKind.i64.wrap ((k:Int)+(1:Int))))→S m (k:Int))
  (last:J n→E (n:Int)) (k:Nat) (le0:k≤n) (hj:J k):∃ m,lp m (k:Int):=by
 have key:∀ (f k:Nat),n - k<f→k≤n→J k→lp f (k:Int):=by
  intro f
  induction f with
  | zero=>intro k  hm; exact absurd hm (Nat.not_lt_zero _)
  | succ f ih =>
   intro k  hm le hj
   rw [h]
   by_cases hlt:k<n
   ·refine iff_yes (decide_eq_true (by omega)) (step k hlt hj f (fun hj2=>?_))
    rw [wrap_next k (Nat.lt_of_lt_of_le hlt hb)]
    exact ih (k+1) (by omega) hlt hj2
   ·have he:k=n:=Nat.le_antisymm le (Nat.le_of_not_lt hlt)
    subst he
    exact iff_no (decide_eq_false (by omega)) (last hj)
 exact ⟨n - k+1,key _ k (Nat.lt_succ_self _) le0 hj⟩
theorem rangeG1 {A0:Type} (n:Nat) (hb:n≤big) (J:Nat→A0→Prop) (lp:Nat→Int→A0→Prop) {S:Nat→Int→A0→Prop} {E:Int→A0→Prop} (h:∀ (m:Nat) (i:Int) a0,lp (m+1) i a0=iff (decide (i<(n:Int))) (S m i a0) (E i a0))
  (step:∀ (k:Nat) (a0:A0),k<n→J k a0→∀ m:Nat,(∀ b0,J (k+1) b0→lp m (IntKind.i64.wrap ((k:Int)+(1:Int))) b0)→S m (k:Int) a0)
  (last:∀ a0,J n a0→E (n:Int) a0) (k:Nat) (a0:A0) (le0:k≤n) (hj:J k a0):∃ m,lp m (k:Int) a0:=by
 have key:∀ (f k:Nat) (a0:A0),n - k<f→k≤n→J k a0→lp f (k:Int) a0:=by
  intro f
  induction f with
  | zero=>intro k a0 hm; exact absurd hm (Nat.not_lt_zero _)
  | succ f ih =>
   intro k a0 hm le hj
   rw [h]
   by_cases hlt:k<n
   ·refine iff_yes (decide_eq_true (by omega)) (step k a0 hlt hj f (fun b0 hj2=>?_))
    rw [wrap_next k (Nat.lt_of_lt_of_le hlt hb)]
    exact ih (k+1) b0 (by omega) hlt hj2
   ·have he:k=n:=Nat.le_antisymm le (Nat.le_of_not_lt hlt)
    subst he
    exact iff_no (decide_eq_false (by omega)) (last a0 hj)
 exact ⟨n - k+1,key _ k a0 (Nat.lt_succ_self _) le0 hj⟩
theorem rangeG2 {A0 A1:Type} (n:Nat) (hb:n≤big) (J:Nat→A0→A1→Prop) (lp:Nat→Int→A0→A1→Prop) {S:Nat→Int→A0→A1→Prop} {E:Int→A0→A1→Prop} (h:∀ (m:Nat) (i:Int) a0 a1,lp (m+1) i a0 a1=iff (decide (i<(n:Int))) (S m i a0 a1) (E i a0 a1))
  (step:∀ (k:Nat) (a0:A0) (a1:A1),k<n→J k a0 a1→∀ m:Nat,(∀ b0 b1,J (k+1) b0 b1→lp m (IntKind.i64.wrap ((k:Int)+(1:Int))) b0 b1)→S m (k:Int) a0 a1)
  (last:∀ a0 a1,J n a0 a1→E (n:Int) a0 a1) (k:Nat) (a0:A0) (a1:A1) (le0:k≤n) (hj:J k a0 a1):∃ m,lp m (k:Int) a0 a1:=by
 have key:∀ (f k:Nat) (a0:A0) (a1:A1),n - k<f→k≤n→J k a0 a1→lp f (k:Int) a0 a1:=by
  intro f
  induction f with
  | zero=>intro k a0 a1 hm; exact absurd hm (Nat.not_lt_zero _)
  | succ f ih =>
   intro k a0 a1 hm le hj
   rw [h]
   by_cases hlt:k<n
   ·refine iff_yes (decide_eq_true (by omega)) (step k a0 a1 hlt hj f (fun b0 b1 hj2=>?_))
    rw [wrap_next k (Nat.lt_of_lt_of_le hlt hb)]
    exact ih (k+1) b0 b1 (by omega) hlt hj2
   ·have he:k=n:=Nat.le_antisymm le (Nat.le_of_not_lt hlt)
    subst he
    exact iff_no (decide_eq_false (by omega)) (last a0 a1 hj)
 exact ⟨n - k+1,key _ k a0 a1 (Nat.lt_succ_self _) le0 hj⟩
theorem rangeG3 {A0 A1 A2:Type} (n:Nat) (hb:n≤big) (J:Nat→A0→A1→A2→Prop) (lp:Nat→Int→A0→A1→A2→Prop) {S:Nat→Int→A0→A1→A2→Prop} {E:Int→A0→A1→A2→Prop} (h:∀ (m:Nat) (i:Int) a0 a1 a2,lp (m+1) i a0 a1 a2=iff (decide (i<(n:Int))) (S m i a0 a1 a2) (E i a0 a1 a2))
  (step:∀ (k:Nat) (a0:A0) (a1:A1) (a2:A2),k<n→J k a0 a1 a2→∀ m:Nat,(∀ b0 b1 b2,J (k+1) b0 b1 b2→lp m (IntKind.i64.wrap ((k:Int)+(1:Int))) b0 b1 b2)→S m (k:Int) a0 a1 a2)
  (last:∀ a0 a1 a2,J n a0 a1 a2→E (n:Int) a0 a1 a2) (k:Nat) (a0:A0) (a1:A1) (a2:A2) (le0:k≤n) (hj:J k a0 a1 a2):∃ m,lp m (k:Int) a0 a1 a2:=by
 have key:∀ (f k:Nat) (a0:A0) (a1:A1) (a2:A2),n - k<f→k≤n→J k a0 a1 a2→lp f (k:Int) a0 a1 a2:=by
  intro f
  induction f with
  | zero=>intro k a0 a1 a2 hm; exact absurd hm (Nat.not_lt_zero _)
  | succ f ih =>
   intro k a0 a1 a2 hm le hj
   rw [h]
   by_cases hlt:k<n
   ·refine iff_yes (decide_eq_true (by omega)) (step k a0 a1 a2 hlt hj f (fun b0 b1 b2 hj2=>?_))
    rw [wrap_next k (Nat.lt_of_lt_of_le hlt hb)]
    exact ih (k+1) b0 b1 b2 (by omega) hlt hj2
   ·have he:k=n:=Nat.le_antisymm le (Nat.le_of_not_lt hlt)
    subst he
    exact iff_no (decide_eq_false (by omega)) (last a0 a1 a2 hj)
 exact ⟨n - k+1,key _ k a0 a1 a2 (Nat.lt_succ_self _) le0 hj⟩
theorem rangeG4 {A0 A1 A2 A3:Type} (n:Nat) (hb:n≤big) (J:Nat→A0→A1→A2→A3→Prop) (lp:Nat→Int→A0→A1→A2→A3→Prop) {S:Nat→Int→A0→A1→A2→A3→Prop} {E:Int→A0→A1→A2→A3→Prop} (h:∀ (m:Nat) (i:Int) a0 a1 a2 a3,lp (m+1) i a0 a1 a2 a3=iff (decide (i<(n:Int))) (S m i a0 a1 a2 a3) (E i a0 a1 a2 a3))
  (step:∀ (k:Nat) (a0:A0) (a1:A1) (a2:A2) (a3:A3),k<n→J k a0 a1 a2 a3→∀ m:Nat,(∀ b0 b1 b2 b3,J (k+1) b0 b1 b2 b3→lp m (IntKind.i64.wrap ((k:Int)+(1:Int))) b0 b1 b2 b3)→S m (k:Int) a0 a1 a2 a3)
  (last:∀ a0 a1 a2 a3,J n a0 a1 a2 a3→E (n:Int) a0 a1 a2 a3) (k:Nat) (a0:A0) (a1:A1) (a2:A2) (a3:A3) (le0:k≤n) (hj:J k a0 a1 a2 a3):∃ m,lp m (k:Int) a0 a1 a2 a3:=by
 have key:∀ (f k:Nat) (a0:A0) (a1:A1) (a2:A2) (a3:A3),n - k<f→k≤n→J k a0 a1 a2 a3→lp f (k:Int) a0 a1 a2 a3:=by
  intro f
  induction f with
  | zero=>intro k a0 a1 a2 a3 hm; exact absurd hm (Nat.not_lt_zero _)
  | succ f ih =>
   intro k a0 a1 a2 a3 hm le hj
   rw [h]
   by_cases hlt:k<n
   ·refine iff_yes (decide_eq_true (by omega)) (step k a0 a1 a2 a3 hlt hj f (fun b0 b1 b2 b3 hj2=>?_))
    rw [wrap_next k (Nat.lt_of_lt_of_le hlt hb)]
    exact ih (k+1) b0 b1 b2 b3 (by omega) hlt hj2
   ·have he:k=n:=Nat.le_antisymm le (Nat.le_of_not_lt hlt)
    subst he
    exact iff_no (decide_eq_false (by omega)) (last a0 a1 a2 a3 hj)
 exact ⟨n - k+1,key _ k a0 a1 a2 a3 (Nat.lt_succ_self _) le0 hj⟩
end Go.Abs
