/-
  Texts AbsP, AbsR, AbsI of this proof, joined.
-/
import Derived.RangeFuncLeaves
import Derived.RangeFuncRecord
import Derived.LoopNIn
import Derived.OrdersIn
import Derived.TacticsIn
import Derived.Test.YthhnadeoioeniaaGreatP5
set_option linter.unusedVariables false
set_option linter.unusedSimpArgs false
namespace Go.Abs
variable {P:Program} {T:Tab} {S0:Sig} {o:Oper} {a:Act} {S:Sig} {st:St} {H:Heap}
theorem callsIn_FR {ro:Option Nat} {n:Nat} {f:FuncId} {args:Array Value} {w:World} {R:Ending→World→Prop} (h:Calls P f args w R):CallsIn (FR ro) n P f args w R :=
 ⟨trivial,fun cs hr=>((callsIn_wide (n:=n)).2 h).2 cs (room_wide _)⟩
theorem rowsIn_FR {ro:Option Nat} {n:Nat} {row:String} {args:Array Value} {w:World} {R:Value→World→Prop} (h:Rows P row args w R):RowsIn (FR ro) n P row args w R:=fun c cs _=>by
 obtain ⟨v,w',hr,hs⟩:=h c cs
 exact ⟨v,w',hr,(stepsIn_wide (P:=P)).2 hs⟩
theorem opDefer_false (h:opDefer o=false):∀ c,o.op≠.defer c:=fun c hc=>by
 unfold opDefer at h; rw [hc] at h; cases h
theorem opIn {ro:Option Nat} {n:Nat} {w:World} {K K':Act→World→Prop} {Q:Exit→Act→World→Prop} (hd:ro=none∨opDefer o=false) (hK:∀ a w,K a w→K' a w) (h:o.wp P a w K Q):o.wpIn (FR ro) n P a w K' Q:=by
 refine ⟨fun _ _=>trivial,?_⟩
 have e:o.semAt (FR ro).round a.eval=execOp a.eval o:=by
  rcases hd with hd | hd
  ·subst hd; rfl
  ·exact Oper.semAt_eq _ _ _ (opDefer_false hd)
 rw [e]
 unfold Oper.wp at h
 revert h
 generalize (execOp a.eval o).run P w=r
 intro h
 cases r with
 | ok x w' =>
  cases x with
  | value v=>exact hK _ _ h
  | skip=>exact hK _ _ h
  | defer d=>exact hK _ _ h
  | enter f args =>
   refine ⟨fun hx=>(by cases hx),callsIn_FR (Calls.mono h fun e w' hr=>?_)⟩
   cases e with
   | returned v=>exact hK _ _ hr
   | panicked c=>exact hr
   | outgrown=>exact hr
  | row row args=>exact ⟨fun hx=>(by cases hx),rowsIn_FR (Rows.mono h fun v w' hr=>hK _ _ hr)⟩
  | _=>exact h.elim
 | halt x w' =>
  cases x with
  | panic v=>exact h
  | _=>exact h.elim
theorem listIn {ro:Option Nat} {n:Nat} {ops:Array Oper} {Q:Exit→Act→World→Prop} (hQ:¬ LetsOut Q):∀ (l:List Oper) (a:Act) (w:World),(ro=none∨l.any opDefer=false)→wpList P ops Q l a w→wpListIn (FR ro) n P ops Q l a w
 | [],a,w,_,h=>h
 | o::r,a,w,hd,h=>by
  have h1:ro=none∨opDefer o=false:=hd.imp id fun h=>by simp only [List.any_cons,Bool.or_eq_false_iff] at h; exact h.1
  have h2:ro=none∨r.any opDefer=false:=hd.imp id fun h=>by simp only [List.any_cons,Bool.or_eq_false_iff] at h; exact h.2
  simp only [wpList] at h
  simp only [wpListIn]
  split at h
  ·rename_i hw
   rw [if_pos hw]
   rcases h with h | h
   ·exact opIn h1 (fun a w h=>listIn hQ r a w h2 h) h
   ·exact absurd h.2 hQ
  ·rename_i hw
   rw [if_neg hw]
   exact ⟨fun _ _=>trivial,listIn hQ r _ w h2 h⟩
theorem anyIn {ro:Option Nat} {n:Nat} {md:Region.Mode} {ops:Array Oper} {Q:Exit→Act→World→Prop} (hQ:¬ LetsOut Q) (hd:ro=none∨ops.toList.any opDefer=false):∀ (f:Nat) (listed:Array Bool) (a:Act) (w:World),wpAny P md ops Q f listed a w→wpAnyIn (FR ro) n P md ops Q f listed a w
 | 0,listed,a,w,h=>h
 | f+1,listed,a,w,h=>by
  refine ⟨h.1,fun i hi=>?_⟩
  have h2:=h.2 i hi
  unfold wpOp at h2
  unfold wpOpIn
  cases ho:ops[i]? with
  | none=>rw [ho] at h2; exact anyIn hQ hd f _ a w h2
  | some o =>
   rw [ho] at h2
   simp only at h2 ⊢
   have h1:ro=none∨opDefer o=false:=hd.imp id fun h=>by
    rw [← Bool.not_eq_true,List.any_eq_true] at h
    rw [← Bool.not_eq_true]
    exact fun hx=>h ⟨o,by rw [Array.mem_toList_iff]; exact Array.mem_of_getElem? ho,hx⟩
   split at h2
   ·rename_i hw
    rw [if_pos hw]
    rcases h2 with h2 | h2
    ·exact opIn h1 (fun a w h=>anyIn hQ hd f _ a w h) h2
    ·exact absurd h2.2 hQ
   ·rename_i hw
    rw [if_neg hw]
    exact ⟨fun _ _=>trivial,anyIn hQ hd f _ _ w h2⟩
theorem Rel.unmark1 {d:Nat} {r:List Nat} (hrel:Rel (lfs T) st H a S) (hinv:Inv S0 S) (hm:S.mks=d::r) :
  Rel (lfs T) st H { a with defers:=r.map fun d=>{ target:=.collected d,args:=#[] } } { S with w:=S.w.putObj d (.deferred none),mks:=r }∧Inv S0 { S with w:=S.w.putObj d (.deferred none),mks:=r }:=by
 have hwf:=hrel.wf
 obtain ⟨hnd,hmk⟩:=hwf.mark
 rw [hm] at hnd hmk
 obtain ⟨m1,m2,m3⟩:=hmk d (by simp)
 let S':Sig:={ S with w:=S.w.putObj d (.deferred none),mks:=r }
 have hw:∀ b,b≠d→S'.w.heap[b]?=S.w.heap[b]?:=fun b hb=>World.putObj_heap_other hb
 have hsz:S'.w.heap.size=S.w.heap.size:=World.putObj_size
 have hFw:∀ b,S.F b→S'.w.heap[b]?=S.w.heap[b]?:=fun b hb=>hw b fun e=>m3 (e▸hb)
 have hbl:∀ r x,S.blk r=some x→S'.w.heap[x.1]?=S.w.heap[x.1]?:=fun r x hx=>hw _ (m2 r x hx)
 have hb:∀ r,S'.blk r=S.blk r:=fun r=>by cases r <;> rfl
 have hob:∀ r,S'.obj r=S.obj r:=fun r=>by cases r <;> rfl
 have mD:∀ {d:D} {u:Value},RepD (lfs T) S d u→RepD (lfs T) S' d u:=fun {d u} h =>
  RepD.mono (S:=S) (S':=S') (Nat.le_refl _) (fun _ h=>h) hFw (p:=fun _=>false) (fun r _ _=>.refl (hob r) (hb r)) (anyR_false d) h
 have mK:∀ {k:K} {x:V} {u:Value},RepK (lfs T) S.w S.F k x u→RepK (lfs T) S'.w S'.F k x u:=fun h=>RepK.mono (w:=S.w) (w':=S'.w) (F:=S.F) (F':=S'.F) (fun _ h=>h) hFw h
 refine ⟨⟨hrel.H,hrel.L,hrel.size,rfl,fun j=>mD (hrel.rep j),?_⟩,?_⟩
 ·refine ⟨fun b hF=>⟨by rw [hsz]; exact (hwf.frozen b hF).1,fun r x h=>(hwf.frozen b hF).2 r x (hb r▸h)⟩,fun r r' x x' h h'=>hwf.inj r r' x x' (hb r▸h) (hb r'▸h'),fun r x h=>by rw [hsz]; exact hwf.lt r x (hb r▸h),fun r=>?_,hwf.own,hwf.mulen,hwf.lalen,(List.nodup_cons.1 hnd).2,fun e he=>?_⟩
  ·rw [hob,hb]
   have:=hwf.obj r
   cases hr:S.obj r with
   | cells cs =>
    rw [hr] at this
    obtain ⟨b,c,e,arr,h3,h4,h5,h6⟩:=this
    exact ⟨b,c,e,arr,h3,by rw [← h4]; exact hbl r _ h3,h5,fun j hj=>⟨mD (h6 j hj).1,(h6 j hj).2⟩⟩
   | row e xs =>
    rw [hr] at this
    rcases this with h3 | ⟨b,c,arr,h3,h4,h5,h6,h7,h9,h8⟩
    ·exact .inl h3
    ·exact .inr ⟨b,c,arr,h3,by rw [← h4]; exact hbl r _ h3,h5,h6,h7,h9,fun x y hx hy=>mK (h8 x y hx hy)⟩
   | map m xs =>
    rw [hr] at this
    obtain ⟨b,c,clock,ents,us,h3,h4,h5,h6,h7,h8⟩:=this
    exact ⟨b,c,clock,ents,us,h3,by rw [← h4]; exact hbl r _ h3,h5,h6,h7,fun x y hx hy=>mK (h8 x y hx hy)⟩
   | iter m x n s =>
    rw [hr] at this
    obtain ⟨b,c,mb,h3,h4,h5,h6⟩:=this
    exact ⟨b,c,mb,h3,by rw [← h4]; exact hbl r _ h3,mD h5,h6⟩
   | dead=>rw [hr] at this; exact this
  ·obtain ⟨g1,g2,g3⟩:=hmk e (List.mem_cons_of_mem _ he)
   have hne:e≠d:=fun e'=>(List.nodup_cons.1 hnd).1 (e'▸he)
   exact ⟨(hw e hne).trans g1,fun r x hx=>g2 r x (hb r▸hx),g3⟩
 ·have he:=hinv.ext
  have hd0:=hinv.mkd d (by rw [hm]; simp)
  refine ⟨⟨by rw [hsz]; exact he.size,he.os,he.tape,he.output,fun b hb' hn=>?_,he.F,he.Fnew,he.len,fun k hk=>(he.keep k hk).trans (.refl rfl rfl),he.fresh⟩,hinv.loc,fun e h=>hinv.mkd e (by rw [hm]; exact List.mem_cons_of_mem _ h)⟩
  obtain ⟨h1,h2⟩:=he.block b hb' hn
  exact ⟨(hw b (by omega)).trans h1,h2⟩
theorem leaves_marks {fn:Func} {R:Ending→World→Prop}:∀ (m:List Nat) (a:Act) (S:Sig),S.mks=m→Rel (lfs T) st H a S→Inv S0 S →
  (∀ (a':Act) (S':Sig),a'.tmps=a.tmps→a'.defers=[]→S'.mks=[]→Rel (lfs T) st H a' S'→Inv S0 S'→∃ v,(results fn a'.tmps).run P S'.w=.ok v S'.w∧R (.returned v) S'.w) →
  LeavesInM (FR none) 0 P fn a.tmps R a.defers .returning S.w
 | [],a,S,hm,hrel,hinv,h=>by
  have hd:a.defers=[]:=by rw [hrel.defers]; unfold marks; rw [hm]; rfl
  rw [hd]
  exact h a S rfl hd hm hrel hinv
 | d::r,a,S,hm,hrel,hinv,h=>by
  obtain ⟨h1,h2⟩:=hrel.unmark1 hinv hm
  have hd:a.defers={ target:=.collected d,args:=#[] }::r.map fun d=>{ target:=.collected d,args:=#[] }:=by rw [hrel.defers]; unfold marks; rw [hm]; rfl
  rw [hd]
  have hk:=(hrel.wf.mark.2 d (by rw [hm]; simp)).1
  refine ⟨(by simp),.inl ⟨d,_,rfl,run_takeDeferred hk,?_⟩⟩
  exact leaves_marks r _ _ rfl h1 h2 fun a' S' e1 e2 e3 h3 h4=>h a' S' e1 e2 e3 h3 h4
end Go.Abs
namespace Go.Abs
variable {P:Program} {T:Tab} {S0:Sig} {o:Oper} {a:Act} {S:Sig} {st:St} {H:Heap} {lf:TypeId→List K}
theorem Wf.world (hwf:Wf lf S) (w':World) (hsz:S.w.heap.size≤w'.heap.size) (hF:∀ b,S.F b→w'.heap[b]?=S.w.heap[b]?) (hB:∀ r x,S.blk r=some x→w'.heap[x.1]?=S.w.heap[x.1]?) (hM:∀ d∈S.mks,w'.heap[d]?=S.w.heap[d]?) :
  Wf lf { S with w:=w' }∧∀ {d:D} {u:Value},RepD lf S d u→RepD lf { S with w:=w' } d u:=by
 let S':Sig:={ S with w:=w' }
 have mD:∀ {d:D} {u:Value},RepD lf S d u→RepD lf S' d u:=fun {d u} h =>
  RepD.mono (S:=S) (S':=S') (Nat.le_refl _) (fun _ h=>h) hF (p:=fun _=>false) (fun r _ _=>.refl rfl rfl) (anyR_false d) h
 have mK:∀ {k:K} {x:V} {u:Value},RepK lf S.w S.F k x u→RepK lf S'.w S'.F k x u:=fun h=>RepK.mono (w:=S.w) (w':=S'.w) (F:=S.F) (F':=S'.F) (fun _ h=>h) hF h
 refine ⟨⟨fun b hb=>⟨Nat.lt_of_lt_of_le (hwf.frozen b hb).1 hsz,(hwf.frozen b hb).2⟩,hwf.inj,fun r x hx=>Nat.lt_of_lt_of_le (hwf.lt r x hx) hsz,fun r=>?_,hwf.own,hwf.mulen,hwf.lalen,hwf.mark.1,fun d hd=>⟨(hM d hd).trans (hwf.mark.2 d hd).1,(hwf.mark.2 d hd).2⟩⟩,mD⟩
 have:=hwf.obj r
 show ObjRep lf S' (S.obj r) (S.blk r)
 cases hr:S.obj r with
 | cells cs =>
  rw [hr] at this
  obtain ⟨b,c,e,arr,h3,h4,h5,h6⟩:=this
  exact ⟨b,c,e,arr,h3,by rw [← h4]; exact hB r _ h3,h5,fun j hj=>⟨mD (h6 j hj).1,(h6 j hj).2⟩⟩
 | row e xs =>
  rw [hr] at this
  rcases this with h3 | ⟨b,c,arr,h3,h4,h5,h6,h7,h9,h8⟩
  ·exact .inl h3
  ·exact .inr ⟨b,c,arr,h3,by rw [← h4]; exact hB r _ h3,h5,h6,h7,h9,fun x y hx hy=>mK (h8 x y hx hy)⟩
 | map m xs =>
  rw [hr] at this
  obtain ⟨b,c,clock,ents,us,h3,h4,h5,h6,h7,h8⟩:=this
  exact ⟨b,c,clock,ents,us,h3,by rw [← h4]; exact hB r _ h3,h5,h6,h7,fun x y hx hy=>mK (h8 x y hx hy)⟩
 | iter m x n s =>
  rw [hr] at this
  obtain ⟨b,c,mb,h3,h4,h5,h6⟩:=this
  exact ⟨b,c,mb,h3,by rw [← h4]; exact hB r _ h3,mD h5,h6⟩
 | dead=>rw [hr] at this; exact this
def rnd (S:Sig) (n:Nat):Sig:={ S with L:=List.replicate n .dead,la:=List.replicate n none }
theorem rnd_eq (hL:S.L=[]) (hla:S.la=[]) (n:Nat) (r:Ref):(rnd S n).blk r=S.blk r∧(rnd S n).obj r=S.obj r:=by
 have hrepl:∀ i,(List.replicate n Obj.dead).getD i .dead=.dead:=fun i=>by
  simp only [List.getD_eq_getElem?_getD,List.getElem?_replicate]; split <;> rfl
 have hrepn:∀ i,(List.replicate n (none:Option (Nat×Nat))).getD i none=none:=fun i=>by
  simp only [List.getD_eq_getElem?_getD,List.getElem?_replicate]; split <;> rfl
 cases r with
 | loc i=>exact ⟨by show (List.replicate n none).getD i none=S.la.getD i none; rw [hrepn,hla]; rfl,by show (List.replicate n .dead).getD i .dead=S.L.getD i .dead; rw [hrepl,hL]; rfl⟩
 | own i=>exact ⟨rfl,rfl⟩
theorem Wf.rnd (hwf:Wf lf S) (hL:S.L=[]) (hla:S.la=[]) (n:Nat):Wf lf (rnd S n)∧∀ {d:D} {u:Value},RepD lf S d u→RepD lf (Abs.rnd S n) d u:=by
 have hb1:∀ r,(Abs.rnd S n).blk r=S.blk r:=fun r=>(rnd_eq hL hla n r).1
 have ho1:∀ r,(Abs.rnd S n).obj r=S.obj r:=fun r=>(rnd_eq hL hla n r).2
 have mD:∀ {d:D} {u:Value},RepD lf S d u→RepD lf (Abs.rnd S n) d u:=fun {d u} h =>
  RepD.mono (S:=S) (S':=Abs.rnd S n) (Nat.le_refl _) (fun _ h=>h) (fun _ _=>rfl) (p:=fun _=>false) (fun r _ _=>.refl (ho1 r) (hb1 r)) (anyR_false d) h
 refine ⟨⟨fun b hF=>⟨(hwf.frozen b hF).1,fun r x h=>(hwf.frozen b hF).2 r x (hb1 r▸h)⟩,fun r r' x x' h h'=>hwf.inj r r' x x' (hb1 r▸h) (hb1 r'▸h'),fun r x h=>hwf.lt r x (hb1 r▸h),fun r=>?_,hwf.own,hwf.mulen,by simp [Abs.rnd],hwf.mark.1,fun d hd=>⟨(hwf.mark.2 d hd).1,fun r x hx=>(hwf.mark.2 d hd).2.1 r x (hb1 r▸hx),(hwf.mark.2 d hd).2.2⟩⟩,mD⟩
 rw [ho1,hb1]
 have:=hwf.obj r
 cases hr:S.obj r with
 | cells cs =>
  rw [hr] at this
  obtain ⟨b,c,e,arr,h3,h4,h5,h6⟩:=this
  exact ⟨b,c,e,arr,h3,h4,h5,fun j hj=>⟨mD (h6 j hj).1,(h6 j hj).2⟩⟩
 | row e xs=>rw [hr] at this; exact this
 | map m xs=>rw [hr] at this; exact this
 | iter m x n s =>
  rw [hr] at this
  obtain ⟨b,c,mb,h3,h4,h5,h6⟩:=this
  exact ⟨b,c,mb,h3,h4,mD h5,h6⟩
 | dead=>rw [hr] at this; exact this
theorem putAll_size:∀ (ps:List Nat) (ts:List D) (ds:List D),(putAll ts ps ds).length=ts.length
 | [],ts,ds=>by cases ds <;> rfl
 | p::ps,ts,[]=>rfl
 | p::ps,ts,d::ds=>by rw [putAll,putAll_size ps]; simp
theorem putAll_rep:∀ (ps:List Nat) (ts:List D) (ds:List D) (us:Array Value) (vs:List Value),ds.length=vs.length→ts.length=us.size→(∀ j,RepD lf S (ts.getD j .undef) (us.getD j undef))→(∀ j,RepD lf S (ds.getD j .undef) (vs.getD j undef)) →
  ∀ j,RepD lf S ((putAll ts ps ds).getD j .undef) (((ps.zip vs).foldl (fun (t:Array Value) (x:Nat×Value)=>t.setIfInBounds x.1 x.2) us).getD j undef)
 | [],ts,ds,us,vs,_,_,h,_,j=>by cases ds <;> exact h j
 | p::ps,ts,[],us,[],_,_,h,_,j=>h j
 | p::ps,ts,d::ds,us,v::vs,hl,hs,h,hd,j=>by
  rw [putAll,List.zip_cons_cons,List.foldl_cons]
  refine putAll_rep ps _ ds _ vs (by simpa using hl) (by simpa using hs) (fun i=>?_) (fun i=>by have:=hd (i+1); simpa using this) j
  have h0:=hd 0
  rw [set_getD]
  by_cases hi:i=p∧p<ts.length
  ·rw [if_pos hi]
   have:(us.setIfInBounds p v).getD i undef=v:=by
    rw [Array.getD_eq_getD_getElem?,hi.1,Array.getElem?_setIfInBounds_self_of_lt (by omega)]; rfl
   rw [this]
   exact h0
  ·rw [if_neg hi]
   have:(us.setIfInBounds p v).getD i undef=us.getD i undef:=by
    rw [Array.getD_eq_getD_getElem?,Array.getD_eq_getD_getElem?]
    by_cases hip:i=p
    ·subst hip
     rw [Array.setIfInBounds_eq_of_size_le (by omega)]
    ·rw [Array.getElem?_setIfInBounds_ne (fun e=>hip e.symm)]
   rw [this]
   exact h i
theorem allIn_iff {rs l:List Ref}:allIn rs l=true↔∀ r∈l,r∈rs:=by
 unfold allIn; rw [List.all_eq_true]
 exact ⟨fun h r hr=>memR_iff.1 (h r hr),fun h r hr=>memR_iff.2 (h r hr)⟩
theorem okRound_spec:∀ {os os':List Obj},okRound os os'=true→os'.length=os.length∧∀ i,∀ r∈(os'.getD i .dead).refs,r∈(os.getD i .dead).refs
 | [],[],_=>⟨rfl,fun i r hr=>by simpa using hr⟩
 | o::r,o'::r',h=>by
  simp only [okRound,Bool.and_eq_true] at h
  obtain ⟨g1,g2⟩:=okRound_spec h.2
  refine ⟨by simp [g1],fun i=>?_⟩
  cases i with
  | zero=>exact allIn_iff.1 h.1
  | succ i=>simpa using g2 i
 | [],_::_,h=>by simp [okRound] at h
 | _::_,[],h=>by simp [okRound] at h
theorem okRound_refl:∀ (os:List Obj),okRound os os=true
 | []=>rfl
 | o::r=>by
  simp only [okRound,Bool.and_eq_true]
  exact ⟨allIn_iff.2 fun r h=>h,okRound_refl r⟩
mutual
theorem mapR_none (f:Ref→Ref):∀ (d:D),D.anyR (fun _=>true) d=false→D.mapR f d=d
 | .v _ _,_=>rfl | .nil,_=>rfl | .elt _ _ _,_=>rfl | .ln _,_=>rfl | .skip,_=>rfl | .undef,_=>rfl
 | .ptr _ _,h=>by simp [D.anyR] at h
 | .relt _ _ _ _ _,h=>by simp [D.anyR] at h
 | .osl _ _,h=>by simp [D.anyR] at h
 | .mp _,h=>by simp [D.anyR] at h
 | .agg cs,h=>by rw [D.mapR,mapRL_none f cs (by simpa [D.anyR] using h)]
 | .tup cs,h=>by rw [D.mapR,mapRL_none f cs (by simpa [D.anyR] using h)]
 | .fn g cs,h=>by rw [D.mapR,mapRL_none f cs (by simpa [D.anyR] using h)]
theorem mapRL_none (f:Ref→Ref):∀ (l:List D),D.anyL (fun _=>true) l=false→D.mapRL f l=l
 | [],_=>rfl
 | d::r,h=>by
  simp only [D.anyL] at h
  cases hd:D.anyR (fun _=>true) d with
  | true=>rw [hd] at h; cases h
  | false=>rw [hd] at h; rw [D.mapRL,mapR_none f d hd,mapRL_none f r h]
end
structure Mid (lf:TypeId→List K) (Sb:Sig) (os:List Obj) (r:Loop) (H':List Obj) (W:World) (S':Sig):Prop where
 w:S'.w=W
 H:S'.H=H'
 L:S'.L=[]
 la:S'.la=[]
 mkn:S'.mks=[]
 wf:Wf lf S'
 ext:Ext Sb S'
 ok:okRound os H'=true
 rcd:W.heap[Sb.w.heap.size+1]?=some (.loop r)
 dfr:W.heap[Sb.w.heap.size]?=some (.deferred (some []))
 out:∀ b,b=Sb.w.heap.size∨b=Sb.w.heap.size+1→(∀ r x,S'.blk r=some x→x.1≠b)∧¬ S'.F b
theorem Mid.lt {Sb:Sig} {os H':List Obj} {r:Loop} {W:World} {S':Sig} (h:Mid lf Sb os r H' W S'):Sb.w.heap.size+1<W.heap.size:=(Array.getElem?_eq_some_iff.1 h.rcd).1
theorem Mid.grow {Sb:Sig} {os H':List Obj} {r:Loop} {W W':World} {S':Sig} (h:Mid lf Sb os r H' W S') (hg:W.grownBy W' none):Mid lf Sb os r H' W' { S' with w:=W' }:=by
 have hlt:=h.lt
 have hs:∀ b,b<W.heap.size→W'.heap[b]?=W.heap[b]?:=fun b hb=>hg.block b hb (by simp)
 have hw:=h.w
 have he:=h.ext
 refine ⟨rfl,h.H,h.L,h.la,h.mkn,(h.wf.world W' (by rw [hw]; exact hg.size) (fun b hb=>by rw [hw]; exact hs b (by rw [← hw]; exact (h.wf.frozen b hb).1)) (fun r x hx=>by rw [hw]; exact hs _ (by rw [← hw]; exact h.wf.lt r x hx)) (fun d hd=>by rw [h.mkn] at hd; cases hd)).1,?_,h.ok,(hs _ hlt).trans h.rcd,(hs _ (by omega)).trans h.dfr,h.out⟩
 refine ⟨?_,?_,?_,?_,fun b hb hn=>?_,he.F,he.Fnew,he.len,fun i hi=>(he.keep i hi).trans (.refl rfl rfl),he.fresh⟩
 ·have:=he.size; rw [hw] at this; exact Nat.le_trans this hg.size
 ·have:=he.os; rw [hw] at this; exact hg.os.trans this
 ·have:=he.tape; rw [hw] at this; exact hg.tape.trans this
 ·have:=he.output; rw [hw] at this; exact hg.output.trans this
 ·obtain ⟨h1,h2⟩:=he.block b hb hn
  rw [hw] at h1
  exact ⟨(hs b (by omega)).trans h1,h2⟩
theorem Mid.turn {Sb:Sig} {os H':List Obj} {r:Loop} {W:World} {S':Sig} (h:Mid lf Sb os r H' W S') (r':Loop):Mid lf Sb os r' H' (W.putObj (Sb.w.heap.size+1) (.loop r')) { S' with w:=W.putObj (Sb.w.heap.size+1) (.loop r') }:=by
 have hlt:=h.lt
 have hs:∀ b,b≠Sb.w.heap.size+1→(W.putObj (Sb.w.heap.size+1) (.loop r')).heap[b]?=W.heap[b]?:=fun b hb=>World.putObj_heap_other hb
 have hw:=h.w
 have he:=h.ext
 obtain ⟨o1,o2⟩:=h.out _ (.inr rfl)
 refine ⟨rfl,h.H,h.L,h.la,h.mkn,(h.wf.world _ (by rw [hw,World.putObj_size]; exact Nat.le_refl _) (fun b hb=>by rw [hw]; exact hs b fun e=>o2 (e▸hb)) (fun r x hx=>by rw [hw]; exact hs _ (o1 r x hx)) (fun d hd=>by rw [h.mkn] at hd; cases hd)).1,?_,h.ok,World.putObj_heap_same hlt,(hs _ (by omega)).trans h.dfr,h.out⟩
 refine ⟨?_,?_,?_,?_,fun b hb hn=>?_,he.F,he.Fnew,he.len,fun i hi=>(he.keep i hi).trans (.refl rfl rfl),he.fresh⟩
 ·have:=he.size; rw [hw] at this; rw [World.putObj_size]; exact this
 ·have:=he.os; rw [hw] at this; exact this
 ·have:=he.tape; rw [hw] at this; exact this
 ·have:=he.output; rw [hw] at this; exact this
 ·obtain ⟨h1,h2⟩:=he.block b hb hn
  rw [hw] at h1
  exact ⟨(hs b (by omega)).trans h1,h2⟩
theorem Mid.own {Sb:Sig} {os H':List Obj} {r:Loop} {W W':World} {S':Sig} (h:Mid lf Sb os r H' W S') (R:Nat→Prop) (hR:∀ b,R b→(∀ r x,S'.blk r=some x→x.1≠b)∧¬ S'.F b∧Sb.w.heap.size+1<b)
  (hs:∀ b,¬ R b→W'.heap[b]?=W.heap[b]?) (hz:W'.heap.size=W.heap.size) (ho:W'.os=W.os∧W'.tape=W.tape∧W'.output=W.output):Mid lf Sb os r H' W' { S' with w:=W' }:=by
 have hw:=h.w
 have he:=h.ext
 refine ⟨rfl,h.H,h.L,h.la,h.mkn,(h.wf.world _ (by rw [hw,hz]; exact Nat.le_refl _) (fun b hb=>by rw [hw]; exact hs b fun hr=>(hR b hr).2.1 hb) (fun r x hx=>by rw [hw]; exact hs _ fun hr=>(hR _ hr).1 r x hx rfl) (fun d hd=>by rw [h.mkn] at hd; cases hd)).1,?_,h.ok,
  (hs _ fun hr=>by have:=(hR _ hr).2.2; omega).trans h.rcd,(hs _ fun hr=>by have:=(hR _ hr).2.2; omega).trans h.dfr,h.out⟩
 refine ⟨?_,?_,?_,?_,fun b hb hn=>?_,he.F,he.Fnew,he.len,fun i hi=>(he.keep i hi).trans (.refl rfl rfl),he.fresh⟩
 ·have:=he.size; rw [hw] at this; show _≤W'.heap.size; rw [hz]; exact this
 ·have:=he.os; rw [hw] at this; exact ho.1.trans this
 ·have:=he.tape; rw [hw] at this; exact ho.2.1.trans this
 ·have:=he.output; rw [hw] at this; exact ho.2.2.trans this
 ·obtain ⟨h1,h2⟩:=he.block b hb hn
  rw [hw] at h1
  exact ⟨(hs b fun hr=>by have:=(hR b hr).2.2; omega).trans h1,h2⟩
theorem Mid.next {Sb:Sig} {os H' H2:List Obj} {r:Loop} {W:World} {S' S2:Sig} (h:Mid lf Sb os r H' W S') (n:Nat) (rb r':Loop)
  (hL:S2.L=[]) (hla:S2.la=[]) (hmk:S2.mks=[]) (hH:S2.H=H2) (hwf:Wf lf S2) (he:Ext { rnd S' n with w:=W.putObj (Sb.w.heap.size+1) (.loop rb) } S2) (hok:okRound os H2=true) :
  S2.w.heap[Sb.w.heap.size+1]?=some (.loop rb)∧Mid lf Sb os r' H2 (S2.w.putObj (Sb.w.heap.size+1) (.loop r')) { S2 with w:=S2.w.putObj (Sb.w.heap.size+1) (.loop r') } ∧
   ∀ b,b<W.heap.size→b≠Sb.w.heap.size+1→(∀ r x,S'.blk r=some x→x.1≠b)→(S2.w.putObj (Sb.w.heap.size+1) (.loop r')).heap[b]?=W.heap[b]?∧(∀ r x,S2.blk r=some x→x.1≠b)∧(¬ S'.F b→¬ S2.F b):=by
 have hlt:=h.lt
 have hw:=h.w
 have hsz:(W.putObj (Sb.w.heap.size+1) (.loop rb)).heap.size=W.heap.size:=World.putObj_size
 have hbl:∀ r x,({ rnd S' n with w:=W.putObj (Sb.w.heap.size+1) (.loop rb) }:Sig).blk r=some x→S'.blk r=some x:=fun r x hx=>by
  have:=(rnd_eq h.L h.la n r).1
  rw [← this]; exact hx
 have hown:∀ r x,S2.blk r=some x→∃ i,r=.own i:=fun r x hx=>by
  cases r with
  | own i=>exact ⟨i,rfl⟩
  | loc i=>have:S2.la.getD i none=some x:=hx; rw [hla] at this; simp at this
 have keepB:∀ b,b<W.heap.size→(∀ r x,S'.blk r=some x→x.1≠b)→S2.w.heap[b]?=(W.putObj (Sb.w.heap.size+1) (.loop rb)).heap[b]?∧∀ r x,S2.blk r=some x→x.1≠b:=fun b hb hn=>by
  obtain ⟨h1,h2⟩:=he.block b (by show b<(W.putObj _ _).heap.size; rw [hsz]; exact hb) fun i x hx=>hn _ x (hbl _ x hx)
  refine ⟨h1,fun r x hx=>?_⟩
  obtain ⟨i,rfl⟩:=hown r x hx
  exact h2 i x hx
 have noF:∀ b,b<W.heap.size→(∀ r x,S'.blk r=some x→x.1≠b)→¬ S'.F b→¬ S2.F b:=fun b hb hn hF hF2=>by
  rcases he.Fnew b (by show b<(W.putObj _ _).heap.size; rw [hsz]; exact hb) hF2 with h1 | ⟨i,x,h1,h2⟩
  ·exact hF h1
  ·exact hn _ x (hbl _ x h1) h2
 obtain ⟨o1,o2⟩:=h.out _ (.inr rfl)
 obtain ⟨p1,p2⟩:=h.out _ (.inl rfl)
 obtain ⟨q1,q2⟩:=keepB _ hlt o1
 obtain ⟨q3,q4⟩:=keepB _ (by omega) p1
 have hrec:S2.w.heap[Sb.w.heap.size+1]?=some (.loop rb):=q1.trans (World.putObj_heap_same hlt)
 have hdfr:S2.w.heap[Sb.w.heap.size]?=some (.deferred (some [])):=(q3.trans (World.putObj_heap_other (by omega))).trans h.dfr
 have hex:=h.ext
 have hsz2:W.heap.size≤S2.w.heap.size:=by have:=he.size; rw [show ({ rnd S' n with w:=W.putObj (Sb.w.heap.size+1) (.loop rb) }:Sig).w.heap.size=W.heap.size from hsz] at this; exact this
 have hm:Mid lf Sb os rb H2 S2.w S2:=by
  refine ⟨rfl,hH,hL,hla,hmk,hwf,?_,hok,hrec,hdfr,fun b hb=>?_⟩
  ·refine ⟨?_,?_,?_,?_,fun b hb hn=>?_,fun b hb=>he.F b (hex.F b hb),fun b hb hF=>?_,Nat.le_trans hex.len he.len,fun i hi=>?_,fun i x hx=>?_⟩
   ·have:=hex.size; rw [hw] at this; exact Nat.le_trans this hsz2
   ·have:=hex.os; rw [hw] at this; exact he.os.trans this
   ·have:=hex.tape; rw [hw] at this; exact he.tape.trans this
   ·have:=hex.output; rw [hw] at this; exact he.output.trans this
   ·obtain ⟨h1,h2⟩:=hex.block b hb hn
    rw [hw] at h1
    obtain ⟨h3,h4⟩:=he.block b (by show b<(W.putObj _ _).heap.size; rw [hsz]; omega) fun i x hx=>h2 i x (hbl _ x hx)
    exact ⟨(h3.trans (World.putObj_heap_other (by omega))).trans h1,h4⟩
   ·rcases he.Fnew b (by show b<(W.putObj _ _).heap.size; rw [hsz]; omega) hF with h1 | ⟨i,x,h1,h2⟩
    ·exact hex.Fnew b hb h1
    ·rcases hex.fresh i x (hbl _ x h1) with ⟨y,h3,h4⟩ | h3
     ·exact .inr ⟨i,y,h3,by omega⟩
     ·omega
   ·have k1:=hex.keep i hi
    have k2:=he.keep i (Nat.lt_of_lt_of_le hi hex.len)
    have k3:Keep S' S2 (.own i):=⟨k2.cells,k2.row,k2.map⟩
    exact k1.trans k3
   ·rcases he.fresh i x hx with ⟨y,h1,h2⟩ | h1
    ·rcases hex.fresh i y (hbl _ y h1) with ⟨z,h3,h4⟩ | h3
     ·exact .inl ⟨z,h3,h2.trans h4⟩
     ·right; rw [h2]; exact h3
    ·right
     have:W.heap.size≤x.1:=by rw [show ({ rnd S' n with w:=W.putObj (Sb.w.heap.size+1) (.loop rb) }:Sig).w.heap.size=W.heap.size from hsz] at h1; exact h1
     omega
  ·rcases hb with rfl | rfl
   ·exact ⟨q4,noF _ (by omega) p1 p2⟩
   ·exact ⟨q2,noF _ hlt o1 o2⟩
 refine ⟨hrec,hm.turn r',fun b hb hne hn=>?_⟩
 obtain ⟨h1,h2⟩:=keepB b hb hn
 exact ⟨((World.putObj_heap_other hne).trans h1).trans (World.putObj_heap_other hne),h2,noF b hb hn⟩
theorem Rel.close (hrel:Rel (lfs T) st H a S) (hinv:Inv S0 S) :
  ∃ S':Sig,S'.w=S.w∧S'.L=[]∧S'.la=[]∧S'.mks=[]∧S'.H=H∧Wf (lfs T) S'∧Ext S0 S'∧(∀ {d:D} {u:Value},RepD (lfs T) S d u→Abs.frzOk st.loc d→D.anyR Ref.isLoc (Abs.frz st.loc d)=false→RepD (lfs T) S' (Abs.frz st.loc d) u):=by
 have hwf:=hrel.wf
 let S':Sig:={ S with L:=[],la:=[],mks:=[],F:=fun b=>S.F b∨∃ i x,S.blk (.loc i)=some x∧x.1=b }
 have hb:∀ r x,S'.blk r=some x→S.blk r=some x∧∃ i,r=.own i:=fun r x h=>by
  cases r with
  | loc i=>simp [Sig.blk,S'] at h
  | own i=>exact ⟨h,i,rfl⟩
 have mK:∀ {k:K} {x:V} {u:Value},RepK (lfs T) S.w S.F k x u→RepK (lfs T) S'.w S'.F k x u:=fun h=>RepK.mono (w:=S.w) (w':=S'.w) (F:=S.F) (F':=S'.F) (fun b hb=>.inl hb) (fun _ _=>rfl) h
 have mD:∀ {d:D} {u:Value},D.anyR Ref.isLoc d=false→RepD (lfs T) S d u→RepD (lfs T) S' d u:=fun {d u} hd h =>
  RepD.mono (S:=S) (S':=S') (Nat.le_refl _) (fun _ h=>.inl h) (fun _ _=>rfl) (p:=Ref.isLoc) (fun r hr _=>by
   cases r with
   | loc i=>cases hr
   | own i=>exact .refl rfl rfl) hd h
 refine ⟨S',rfl,rfl,rfl,rfl,hrel.H,?_,?_,?_⟩
 ·refine ⟨fun b hF=>?_,fun r r' x x' h h'=>hwf.inj r r' x x' (hb r x h).1 (hb r' x' h').1,fun r x h=>hwf.lt r x (hb r x h).1,fun r=>?_,hwf.own,hwf.mulen,rfl,List.nodup_nil,fun d hd=>(by cases hd)⟩
  ·rcases hF with hF | ⟨i,y,hy,rfl⟩
   ·exact ⟨(hwf.frozen b hF).1,fun r x h=>(hwf.frozen b hF).2 r x (hb r x h).1⟩
   ·refine ⟨hwf.lt _ y hy,fun r x h he=>?_⟩
    obtain ⟨h1,k,rfl⟩:=hb r x h
    have:=hwf.inj (.own k) (.loc i) x y h1 hy he
    cases this
  ·cases r with
   | loc i =>
    show ObjRep _ _ (([]:List Obj).getD i .dead) (([]:List (Option (Nat×Nat))).getD i none)
    simp [ObjRep]
   | own i =>
    have:=hwf.obj (.own i)
    have hfr:=hwf.own i
    show ObjRep _ _ (S.H.getD i .dead) (S.mu.getD i none)
    cases hr:S.H.getD i .dead with
    | cells cs =>
     rw [show S.obj (.own i)=.cells cs from hr] at this
     rw [hr] at hfr
     have hfr':D.anyL Ref.isLoc cs=false:=hfr
     obtain ⟨b,c,e,arr,h3,h4,h5,h6⟩:=this
     exact ⟨b,c,e,arr,h3,h4,h5,fun j hj=>⟨mD (anyL_getD j hfr') (h6 j hj).1,(h6 j hj).2⟩⟩
    | row e xs =>
     rw [show S.obj (.own i)=.row e xs from hr] at this
     rcases this with h3 | ⟨b,c,arr,h3,h4,h5,h6,h7,h9,h8⟩
     ·exact .inl h3
     ·exact .inr ⟨b,c,arr,h3,h4,h5,h6,h7,h9,fun x y hx hy=>mK (h8 x y hx hy)⟩
    | map m xs =>
     rw [show S.obj (.own i)=.map m xs from hr] at this
     obtain ⟨b,c,clock,ents,us,h3,h4,h5,h6,h7,h8⟩:=this
     exact ⟨b,c,clock,ents,us,h3,h4,h5,h6,h7,fun x y hx hy=>mK (h8 x y hx hy)⟩
    | iter m x n s=>rw [hr] at hfr; exact hfr.elim
    | dead=>rw [show S.obj (.own i)=.dead from hr] at this; exact this
 ·have he:=hinv.ext
  refine ⟨he.size,he.os,he.tape,he.output,he.block,fun b hb=>.inl (he.F b hb),fun b hb hF=>?_,he.len,fun k hk=>(he.keep k hk).trans (.refl rfl rfl),fun k x hx=>he.fresh k x hx⟩
  rcases hF with hF | ⟨i,y,hy,rfl⟩
  ·exact he.Fnew b hb hF
  ·have:=hinv.loc i y hy; omega
 ·intro d u h
  induction h with
  | v k x u h=>exact fun _ _=>.v k x u (mK h)
  | nil=>exact fun _ _=>.nil
  | agg cs us hl _ ih =>
   intro hok hfree
   simp only [Abs.frz,D.anyR] at hfree
   simp only [Abs.frzOk] at hok
   simp only [Abs.frz]
   have hlen:∀ l:List D,(frzL st.loc l).length=l.length:=fun l=>by
    induction l with
    | nil=>rfl
    | cons d r ih=>simp [frzL,ih]
   have hg:∀ (l:List D) (j:Nat),(frzL st.loc l).getD j .undef=Abs.frz st.loc (l.getD j .undef):=fun l=>by
    induction l with
    | nil=>intro j; simp [frzL,Abs.frz]
    | cons d r ih=>intro j; cases j with
     | zero=>rfl
     | succ j=>exact ih j
   have hk:∀ (l:List D) (j:Nat),Abs.frzOkL st.loc l→Abs.frzOk st.loc (l.getD j .undef):=fun l=>by
    induction l with
    | nil=>intro j _; simp [Abs.frzOk]
    | cons d r ih=>intro j h; cases j with
     | zero=>exact h.1
     | succ j=>exact ih j h.2
   refine .agg _ us (by rw [hlen]; exact hl) fun j=>?_
   rw [hg]
   exact ih j (hk cs j hok) (by rw [← hg]; exact anyL_getD j hfree)
  | tup cs us hl _ ih =>
   intro hok hfree
   simp only [Abs.frz,D.anyR] at hfree
   simp only [Abs.frzOk] at hok
   simp only [Abs.frz]
   have hlen:∀ l:List D,(frzL st.loc l).length=l.length:=fun l=>by
    induction l with
    | nil=>rfl
    | cons d r ih=>simp [frzL,ih]
   have hg:∀ (l:List D) (j:Nat),(frzL st.loc l).getD j .undef=Abs.frz st.loc (l.getD j .undef):=fun l=>by
    induction l with
    | nil=>intro j; simp [frzL,Abs.frz]
    | cons d r ih=>intro j; cases j with
     | zero=>rfl
     | succ j=>exact ih j
   have hk:∀ (l:List D) (j:Nat),Abs.frzOkL st.loc l→Abs.frzOk st.loc (l.getD j .undef):=fun l=>by
    induction l with
    | nil=>intro j _; simp [Abs.frzOk]
    | cons d r ih=>intro j h; cases j with
     | zero=>exact h.1
     | succ j=>exact ih j h.2
   refine .tup _ us (by rw [hlen]; exact hl) fun j=>?_
   rw [hg]
   exact ih j (hk cs j hok) (by rw [← hg]; exact anyL_getD j hfree)
  | ptr r off u h1 h2 =>
   intro _ hfree
   simp only [Abs.frz] at hfree ⊢
   exact mD hfree (.ptr r off u h1 h2)
  | elt e cs off b o us h1 h2 h3 =>
   intro _ hfree
   simp only [Abs.frz] at hfree ⊢
   exact mD hfree (.elt e cs off b o us h1 h2 h3)
  | relt r e n i off u h1 h2 =>
   intro _ hfree
   simp only [Abs.frz] at hfree ⊢
   exact mD hfree (.relt r e n i off u h1 h2)
  | osl r n u h1 h2 =>
   intro hok hfree
   cases r with
   | own k=>exact mD rfl (.osl (.own k) n u h1 h2)
   | loc k =>
    simp only [Abs.frz] at hfree ⊢
    simp only [Abs.frzOk] at hok
    cases hr:st.loc.getD k .dead with
    | cells cs=>rw [hr] at hfree; cases hfree
    | dead=>rw [hr] at hfree; cases hfree
    | map m xs=>rw [hr] at hfree; cases hfree
    | iter m x n s=>rw [hr] at hfree; cases hfree
    | row e xs =>
     rw [hr] at hok
     have hob:S.obj (.loc k)=.row e xs:=by rw [hrel.getO_obj]; exact hr
     have hn:n=xs.length:=hok
     have hu:=(h2 e xs hob).2 hn
     subst hu
     rcases hwf.row hob with ⟨h3,h4⟩ | ⟨b,c,arr,h3,h4,h5,h6,h7,h9,h8⟩
     ·rw [h3]
      exact .v _ _ _ (.sl0 e (.l xs) none 0 h4)
     ·rw [h3]
      refine .v _ _ _ ?_
      have:=RepK.sl (lf:=lfs T) (w:=S'.w) (F:=S'.F) e (.l xs) b 0 c (fun i j=>arr.getD (i*(lfs T e).length+j) undef) (.inr ⟨k,_,h3,rfl⟩) ⟨h6,h7⟩ h9
       (fun i j hi hj=>by
        have hi':i<xs.length:=hi
        have h10:=Nat.mul_le_mul_right (lfs T e).length (show i+1≤c by omega)
        rw [Nat.add_mul,Nat.one_mul] at h10
        rw [Nat.zero_add]
        exact cell_of h4 (by omega))
       (fun i j hi hj=>mK (h8 i j hi hj))
      rw [list_l,← hn] at this
      exact this
  | mp r u h1 h2 =>
   intro hok hfree
   cases r with
   | own k=>exact mD rfl (.mp (.own k) u h1 h2)
   | loc k =>
    simp only [Abs.frz] at hfree ⊢
    cases hr:st.loc.getD k .dead with
    | cells cs=>rw [hr] at hfree; cases hfree
    | dead=>rw [hr] at hfree; cases hfree
    | row e xs=>rw [hr] at hfree; cases hfree
    | iter m x n s=>rw [hr] at hfree; cases hfree
    | map m xs =>
     have hob:S.obj (.loc k)=.map m xs:=by rw [hrel.getO_obj]; exact hr
     have:=hwf.obj (.loc k)
     rw [hob] at this
     obtain ⟨b,c,clock,ents,us,h3,h4,h5,h6,h7,h8⟩:=this
     have hu:=h2 m xs hob _ h3
     subst hu
     exact .v _ _ _ (.mp m (.l xs) b clock ents us (.inr ⟨k,_,h3,rfl⟩) h4 h5 h6 h7 fun i j hi hj=>mK (h8 i j hi hj))
  | fn f caps us hl hr _ =>
   intro _ hfree
   simp only [Abs.frz] at hfree ⊢
   exact mD hfree (.fn f caps us hl hr)
  | ln n A c h=>exact fun _ _=>.ln n A c h
  | skip=>exact fun _ _=>.skip
  | undef u=>exact fun _ _=>.undef u
theorem Zia {E : Env} (hE : EnvOk P E) {g : Operand} {ps : Array Tmp} {x y : Code} (Q : Post)
    (hx : ∀ (l : Nat) (S0 : Sig) (Q : Post) (st : St) (H : Heap) (a : Act) (S : Sig), evCode E x st H Q → Rel (lfs E.T) st H a S → Inv S0 S → x.wpIn (FR (some l)) 0 P (PostC E.T S0 Q) a S.w)
    (hy : ∀ (l : Nat) (S0 : Sig) (Q : Post) (st : St) (H : Heap) (a : Act) (S : Sig), evCode E y st H Q → Rel (lfs E.T) st H a S → Inv S0 S → y.wpIn (FR (some l)) 0 P (PostC E.T S0 Q) a S.w)
    (hrel : Rel (lfs E.T) st H a S) (hinv : Inv S0 S) {f : FuncId} {caps : List D} (hg : st.eval g = .fn f caps) {rs : List Ref} (hok : okRefs st H rs st.tmps = true) (hent : E.ent f = true) (hcap : D.anyL (fun _ => true) caps = false)
    {rows : List (List V)} (hit : E.iter f caps rows)
    (RG : List (List V) → Heap → Prop) (hnil : ∀ H2, RG [] H2 → Q .n (updLoc rs H2 st) (updOwn rs H2 H))
    (hRG : ∀ xs r xs' H2, nextRow (E.anyI f) xs r xs' → RG xs H2 → match Nat.beq (E.row f r).length ps.toList.length && !(D.anyL (fun _ => true) (E.row f r)) with
      | false => False
      | true => evCode E x ⟨putAll (D.mapRL (renR rs) st.tmps) ps.toList (E.row f r), List.replicate st.loc.length .dead⟩ H2 fun e st1 H1 => match e with
        | .n => evCode E y st1 H1 fun e st2 H2 => match okRound (objsOf st H rs) H2 with
          | false => False
          | true => (match e with
            | .n => RG xs' H2
            | .x id => Q (.x id) (updLoc rs H2 st) (updOwn rs H2 H)
            | .r => Q .r (updLoc rs H2 st) (updOwn rs H2 H))
        | _ => False)
    (h : RG rows (objsOf st H rs)) (n : Nat) :
    (Code.rangeFunc g ps x y).wpIn (FR none) n P (PostC E.T S0 Q) a S.w := by
  obtain ⟨k1, k2, k3, k4, k5⟩ := okRefs_spec hrel hok
  rw [k5] at h hRG
  have hwf := hrel.wf
  have hfo := hrel.eval g
  rw [hg] at hfo
  generalize hfv : a.eval g = u at hfo
  cases hfo with
  | fn _ _ us hl hr =>
  refine wpIn_rangeFunc fun fn hfn => ?_
  obtain ⟨rec, hrec⟩ : ∃ rec : LoopState → Option Code → Loop, rec = fun s pe => { state := s, pending := pe, fn, tmps := a.tmps, params := ps, assign := x, body := y, defers := S.w.heap.size } := ⟨_, rfl⟩
  obtain ⟨W1, hW1⟩ : ∃ W1, (S.w.alloc (.deferred (some []))).alloc (.loop (rec .ready none)) = W1 := ⟨_, rfl⟩
  have hsz1 : W1.heap.size = S.w.heap.size + 2 := by rw [← hW1]; simp
  have hold : ∀ b, b < S.w.heap.size → W1.heap[b]? = S.w.heap[b]? := fun b hb => by
    rw [← hW1, alloc_old _ _ b (by simp; omega), alloc_old _ _ b hb]
  have hL1 : W1.heap[S.w.heap.size + 1]? = some (.loop (rec .ready none)) := by
    rw [← hW1]; have := World.alloc_heap_new (S.w.alloc (.deferred (some []))) (.loop (rec .ready none)); rwa [World.size_alloc] at this
  have hB1 : W1.heap[S.w.heap.size]? = some (.deferred (some [])) := by
    rw [← hW1, alloc_old _ _ _ (by simp)]; exact World.alloc_heap_new _ _
  have hos1 : W1.os = S.w.os ∧ W1.tape = S.w.tape ∧ W1.output = S.w.output := by rw [← hW1]; exact ⟨rfl, rfl, rfl⟩
  have hwf0 := hwf.sub k1 k3 k4
  obtain ⟨hwf1, mD1⟩ := hwf0.world W1 (by show S.w.heap.size ≤ _; omega) (fun b hb => hold b (hwf0.frozen b hb).1) (fun r x hx => hold _ (hwf0.lt r x hx)) (fun d hd => by cases hd)
  obtain ⟨os, hos⟩ : ∃ os, (S.sub rs).H = os := ⟨_, rfl⟩
  rw [hos] at h hRG
  let Kq : Ex → Heap → Prop := fun e H2 => Q e (updLoc rs H2 st) (updOwn rs H2 H)
  let M : Loop → List Obj → World → Sig → Prop := Mid (lfs E.T) (S.sub rs) os
  let J : List (List V) → (Nat → Prop) → World → Prop := fun xs R W => ∃ H' S', M (rec .ready none) H' W S' ∧
    RG xs H' ∧
    ∀ b, R b → b < W.heap.size ∧ (∀ r x, S'.blk r = some x → x.1 ≠ b) ∧ ¬ S'.F b ∧ S.w.heap.size + 1 < b
  let Jx : World → Prop := fun W => ∃ H' S' c, M (rec .done (some c)) H' W S' ∧ ((c = .ret ∧ Kq .r H') ∨ ∃ id, c = .exit id ∧ Kq (.x id) H')
  have hwS : (S.sub rs).w = S.w := rfl
  -- the way out
  have fin : ∀ (e : Ex) (H' : List Obj) (S' : Sig) (W : World) (r : Loop) (s : LoopState), M r H' W S' → Kq e H' → ∃ S3 : Sig, S3.w = W.putObj (S.w.heap.size + 1) (.loop { r with state := s }) ∧
      Rel (lfs E.T) (updLoc rs H' st) (updOwn rs H' H) { a with defers := { target := .collected S.w.heap.size, args := #[] } :: a.defers } S3 ∧ Inv S0 S3 := fun e H' S' W r s hm hk => by
    have ht := hm.turn { r with state := s }
    obtain ⟨g1, g2⟩ := okRound_spec hm.ok
    have hb7 : ∀ r' x, ({ S' with w := W.putObj ((S.sub rs).w.heap.size + 1) (.loop { r with state := s }) } : Sig).blk r' = some x → x.1 ≠ S.w.heap.size := fun r' x hx => (ht.out _ (.inl rfl)).1 r' x hx
    obtain ⟨S7, hS7⟩ : ∃ S7 : Sig, { S' with w := W.putObj ((S.sub rs).w.heap.size + 1) (.loop { r with state := s }) } = S7 := ⟨_, rfl⟩
    rw [hS7] at ht hb7
    have hlen : S7.H.length = rs.length := by rw [ht.H, g1, ← hos]; simp [Sig.sub]
    obtain ⟨b1, b2, _⟩ := hrel.join hinv k1 k3 k4 ht.L ht.la ht.wf ht.ext hlen (fun i r' hr' => by
      have h7 : r' ∈ (S7.H.getD i .dead).refs := hr'
      rw [ht.H] at h7
      have := g2 i r' h7
      rw [← hos] at this
      exact this)
    rw [ht.H] at b1
    obtain ⟨Sj, hSj⟩ : ∃ Sj : Sig, S.join rs S7 = Sj := ⟨_, rfl⟩
    have hjw : Sj.w = W.putObj (S.w.heap.size + 1) (.loop { r with state := s }) := by rw [← hSj]; exact ht.w
    have hjF : ∀ b, Sj.F b = S7.F b := fun b => by rw [← hSj]; rfl
    have hjm : Sj.mks = S.mks := by rw [← hSj]; rfl
    have hjb : ∀ r x, Sj.blk r = some x → x.1 ≠ S.w.heap.size := fun r x hx => by
      rw [← hSj] at hx
      by_cases h : r ∈ rs
      · rw [(join_in hwf h (notDead (k3 r h))).2] at hx
        exact hb7 _ x hx
      · rw [(join_out h).2] at hx
        have := hwf.lt r x hx; omega
    rw [hSj] at b1 b2
    refine ⟨{ Sj with mks := S.w.heap.size :: S.mks }, hjw, ⟨b1.H, b1.L, b1.size, ?_, fun j => ?_, ?_⟩, ?_⟩
    · show _ :: a.defers = _
      rw [hrel.defers]; rfl
    · exact RepD.mono (S := Sj) (S' := { Sj with mks := S.w.heap.size :: S.mks }) (Nat.le_refl _) (fun _ h => h) (fun _ _ => rfl) (p := fun _ => false) (fun r _ _ => .refl rfl rfl) (anyR_false _) (b1.rep j)
    · have hw := b1.wf
      refine ⟨hw.frozen, hw.inj, hw.lt, fun r => ?_, hw.own, hw.mulen, hw.lalen, ?_, fun d hd => ?_⟩
      · have := hw.obj r
        show ObjRep _ _ (Sj.obj r) (Sj.blk r)
        have mD : ∀ {d : D} {u : Value}, RepD (lfs E.T) Sj d u → RepD (lfs E.T) { Sj with mks := S.w.heap.size :: S.mks } d u := fun {d u} h =>
          RepD.mono (S := Sj) (S' := { Sj with mks := S.w.heap.size :: S.mks }) (Nat.le_refl _) (fun _ h => h) (fun _ _ => rfl) (p := fun _ => false) (fun r _ _ => .refl rfl rfl) (anyR_false _) h
        cases hr : Sj.obj r with
        | cells cs =>
          rw [hr] at this
          obtain ⟨b, c, e, arr, h3, h4, h5, h6⟩ := this
          exact ⟨b, c, e, arr, h3, h4, h5, fun j hj => ⟨mD (h6 j hj).1, (h6 j hj).2⟩⟩
        | row e xs => rw [hr] at this; exact this
        | map m xs => rw [hr] at this; exact this
        | iter m x n s =>
          rw [hr] at this
          obtain ⟨b, c, mb, h3, h4, h5, h6⟩ := this
          exact ⟨b, c, mb, h3, h4, mD h5, h6⟩
        | dead => rw [hr] at this; exact this
      · refine List.nodup_cons.2 ⟨fun hm' => ?_, hwf.mark.1⟩
        have := (Array.getElem?_eq_some_iff.1 (hwf.mark.2 _ hm').1).1
        omega
      · rcases List.mem_cons.1 hd with rfl | hd
        · refine ⟨?_, hjb, fun hF => ?_⟩
          · show Sj.w.heap[_]? = _
            rw [hjw]; exact ht.dfr
          · have hF : Sj.F S.w.heap.size := hF
            rw [hjF] at hF
            exact (ht.out _ (.inl rfl)).2 hF
        · exact hw.mark.2 d (by rw [hjm]; exact hd)
    · refine ⟨⟨b2.ext.size, b2.ext.os, b2.ext.tape, b2.ext.output, b2.ext.block, b2.ext.F, b2.ext.Fnew, b2.ext.len, fun i hi => (b2.ext.keep i hi).trans (.refl rfl rfl), b2.ext.fresh⟩, b2.loc, fun d hd => ?_⟩
      rcases List.mem_cons.1 hd with rfl | hd
      · exact hinv.ext.size
      · exact hinv.mkd d hd
  refine ⟨S.w.heap.size + 1, [{ target := .collected S.w.heap.size, args := #[] }], W1, { target := .fn (.func f) us.toArray, args := #[.func (.yield (S.w.heap.size + 1)) #[] #[]] }, W1, f,
    #[.func (.yield (S.w.heap.size + 1)) #[] #[]] ++ us.toArray, W1, ?_, ?_, fun _ _ => trivial, ?_, fun hd => (by cases hd), ?_⟩
  · rw [← hW1, hrec]; exact run_enterLoop_outer _ _ _ _ _
  · simp only [resolve, hfv]
    simp [go_sem]
  · simp [invoke, go_sem, hE.ent f hent]
  have hmapc : ∀ j, RepD (lfs E.T) { S.sub rs with w := W1 } (caps.getD j .undef) (us.getD j undef) := fun j => by
    have hn : D.anyR (fun _ => true) (caps.getD j .undef) = false := anyL_getD j hcap
    have := RepD.ren (S := S) (S' := S.sub rs) (fun _ h => h) (fun _ _ => rfl) (renR rs) (hr j) (fun r hr' => by
      have := (anyR_refs _).1 hn r hr'; cases this)
    rw [mapR_none _ _ hn] at this
    exact mD1 this
  refine callsIn_FR ((hE.iter f caps rows hit { S.sub rs with w := W1 } us hwf1 hl hmapc hcap (S.w.heap.size + 1) J Jx ?_ ?_ ?_ ?_ ?_).mono ?_)
  · -- what a round finds
    rintro xs R W ⟨H', S', hm, _, hR⟩
    refine ⟨fun b hb => ?_, fun b hb => (hR b hb).1⟩
    have hlt := (hwf0.frozen b hb).1
    have := (hm.ext.block b hlt fun i x hx => (hwf0.frozen b hb).2 _ x hx).1
    rw [hm.w] at this
    exact this.trans (hold b hlt).symm
  · -- the iterator's own blocks
    rintro xs R W W' ⟨H', S', hm, hq, hR⟩ hgr
    refine ⟨H', _, hm.grow hgr, hq, fun b hb => ?_⟩
    have hlt := hm.lt
    rw [hwS] at hlt
    rcases hb with hb | ⟨hb1, hb2⟩
    · obtain ⟨c1, c2, c3⟩ := hR b hb
      exact ⟨Nat.lt_of_lt_of_le c1 hgr.size, c2, c3⟩
    · refine ⟨hb2, fun r x hx => ?_, fun hF => ?_, by omega⟩
      · have := hm.wf.lt r x hx
        rw [hm.w] at this
        omega
      · have := (hm.wf.frozen b hF).1
        rw [hm.w] at this
        omega
  · -- the iterator changes its own blocks
    rintro xs R W W' ⟨H', S', hm, hq, hR⟩ hs hz ho
    refine ⟨H', _, hm.own R (fun b hb => ⟨(hR b hb).2.1, (hR b hb).2.2.1, (hR b hb).2.2.2⟩) hs hz ho, hq, fun b hb => ?_⟩
    obtain ⟨c1, c2, c3⟩ := hR b hb
    exact ⟨by rw [hz]; exact c1, c2, c3⟩
  · -- ONE ROUND
    rintro xs r xs' R W args hnx ⟨H', S', hm, hq0, hR⟩ hal hargs
    have hq := hRG xs r xs' H' hnx hq0
    split at hq
    · exact hq.elim
    rename_i hchk
    simp only [Bool.and_eq_true, Bool.not_eq_true', Nat.beq_eq] at hchk
    obtain ⟨hlen, hnr⟩ := hchk
    have hps : args.length = ps.size := by rw [hal, hlen]; simp
    have hyl := run_yield (P := P) (args := args.toArray) hm.rcd (by rw [hrec]; simpa using hps)
    rw [hrec] at hyl
    refine ⟨fn, _, x, y, hyl, roundIn_of_wpIn hfn ?_⟩
    obtain ⟨hwfr, mDr⟩ := hm.wf.rnd hm.L hm.la st.loc.length
    have hmkr : (rnd S' st.loc.length).mks = [] := hm.mkn
    have hfold : (ps.zip args.toArray).foldl (fun (t : Array Value) (z : Nat × Value) => t.setIfInBounds z.1 z.2) a.tmps = (ps.toList.zip args).foldl (fun (t : Array Value) (z : Nat × Value) => t.setIfInBounds z.1 z.2) a.tmps := by
      rw [← Array.foldl_toList]; simp
    have hrelr : Rel (lfs E.T) ⟨putAll (D.mapRL (renR rs) st.tmps) ps.toList (E.row f r), List.replicate st.loc.length .dead⟩ H' { tmps := (ps.zip args.toArray).foldl (fun (t : Array Value) (z : Nat × Value) => t.setIfInBounds z.1 z.2) a.tmps, defers := [] } (rnd S' st.loc.length) := by
      refine ⟨hm.H, rfl, ?_, by unfold marks; rw [hmkr]; rfl, fun j => ?_, hwfr⟩
      · rw [putAll_size, mapRL_length]
        show ((ps.zip args.toArray).foldl _ a.tmps).size = _
        rw [hfold, ← hrel.size]
        have : ∀ (l : List (Nat × Value)) (t : Array Value), (l.foldl (fun (t : Array Value) (z : Nat × Value) => t.setIfInBounds z.1 z.2) t).size = t.size := fun l => by
          induction l with
          | nil => intro t; rfl
          | cons z l ih => intro t; rw [List.foldl_cons, ih]; simp
        exact this _ _
      · show RepD _ _ ((putAll _ _ _).getD j .undef) (((ps.zip args.toArray).foldl _ a.tmps).getD j undef)
        rw [hfold]
        refine putAll_rep ps.toList _ _ a.tmps args hal.symm (by rw [mapRL_length]; exact hrel.size.symm) (fun i => ?_) (fun i => ?_) j
        · rw [mapRL_getD]
          have c1 := RepD.ren (S := S) (S' := S.sub rs) (fun _ h => h) (fun _ _ => rfl) (renR rs) (hrel.rep i) fun r' hr' => sub_keep S (k2 r' (refs_getD hr'))
          refine mDr (RepD.mono (S := S.sub rs) (S' := S') hm.ext.len (fun b hb => hm.ext.F b hb) (fun b hb => (hm.ext.block b (hwf0.frozen b hb).1 fun i x hx => (hwf0.frozen b hb).2 _ x hx).1) (p := Ref.isLoc) (fun r' hr' hi => ?_) (ren_noloc rs _) c1)
          cases r' with
          | loc i => cases hr'
          | own i => exact hm.ext.keep i hi
        · refine mDr (RepD.mono (S := { ({ S.sub rs with w := W1 } : Sig) with w := W }) (S' := S') hm.ext.len (fun b hb => hm.ext.F b hb) (fun b hb => by rw [hm.w]) (p := fun _ => true) (fun r' hr' _ => by cases hr') (anyL_getD i hnr) (hargs i))
    have hnl : ∀ i bc, (rnd S' st.loc.length).blk (.loc i) = some bc → False := fun i bc hb => by
      rw [(rnd_eq hm.L hm.la st.loc.length (.loc i)).1] at hb
      have : S'.la.getD i none = some bc := hb
      rw [hm.la] at this; simp at this
    have hinvr : Inv (rnd S' st.loc.length) (rnd S' st.loc.length) := ⟨Ext.refl _, fun i bc hb => (hnl i bc hb).elim, fun d hd => by rw [hmkr] at hd; cases hd⟩
    have hxx := hx (S.w.heap.size + 1) _ _ _ _ _ _ hq hrelr hinvr
    rw [show (rnd S' st.loc.length).w = W from hm.w] at hxx
    refine wpIn_mono hxx ?_
    rintro e a1 w1 ⟨st1, H1, S2, hw2, hrel2, hinv2, hq⟩
    have hltW := hm.lt
    rw [hwS] at hltW
    obtain ⟨o1, o2⟩ := hm.out _ (.inr rfl)
    have hbr : ∀ r x, (rnd S' st.loc.length).blk r = some x → S'.blk r = some x := fun r x hx => by rw [← (rnd_eq hm.L hm.la st.loc.length r).1]; exact hx
    have hrw : (rnd S' st.loc.length).w = W := hm.w
    cases e with
    | normal =>
      obtain ⟨e1, e2⟩ := hinv2.ext.block (S.w.heap.size + 1) (by rw [hrw]; exact hltW) fun i x hx => o1 _ x (hbr _ x hx)
      rw [hrw, hw2] at e1
      have hL2 : w1.heap[S.w.heap.size + 1]? = some (.loop (rec .ready none)) := e1.trans hm.rcd
      refine ⟨_, run_beginRound hL2 (by rw [hrec]), ?_⟩
      obtain ⟨rb, hrb⟩ : ∃ rb : Loop, rb = { rec .ready none with state := .busy } := ⟨_, rfl⟩
      rw [← hrb]
      have hnF2 : ¬ S2.F (S.w.heap.size + 1) := fun hF => by
        rcases hinv2.ext.Fnew _ (by rw [hrw]; exact hltW) hF with g1 | ⟨i, x, g1, g2⟩
        · exact o2 g1
        · exact o1 _ x (hbr _ x g1) g2
      have hnB2 : ∀ r x, S2.blk r = some x → x.1 ≠ S.w.heap.size + 1 := fun r x hx => by
        cases r with
        | own i => exact e2 i x hx
        | loc i => have := hinv2.loc i x hx; rw [hrw] at this; omega
      have hs : ∀ (V : World) b, b ≠ S.w.heap.size + 1 → (V.putObj (S.w.heap.size + 1) (.loop rb)).heap[b]? = V.heap[b]? := fun V b hb => World.putObj_heap_other hb
      obtain ⟨hwf3, mD3⟩ := hrel2.wf.world (w1.putObj (S.w.heap.size + 1) (.loop rb)) (by rw [hw2, World.putObj_size]; exact Nat.le_refl _) (fun b hb => by rw [hw2]; exact hs _ b fun e => hnF2 (e ▸ hb)) (fun r x hx => by rw [hw2]; exact hs _ _ (hnB2 r x hx))
        (fun d hd => by rw [hw2]; exact hs _ _ (by have := hinv2.mkd d hd; rw [hrw] at this; omega))
      have hrel3 : Rel (lfs E.T) st1 H1 a1 { S2 with w := w1.putObj (S.w.heap.size + 1) (.loop rb) } := ⟨hrel2.H, hrel2.L, hrel2.size, hrel2.defers, fun j => mD3 (hrel2.rep j), hwf3⟩
      have hszb : (W.putObj (S.w.heap.size + 1) (.loop rb)).heap.size = W.heap.size := World.putObj_size
      have hinv3 : Inv { rnd S' st.loc.length with w := W.putObj (S.w.heap.size + 1) (.loop rb) } { S2 with w := w1.putObj (S.w.heap.size + 1) (.loop rb) } := by
        have he := hinv2.ext
        refine ⟨⟨?_, ?_, ?_, ?_, fun b hb hn => ?_, he.F, fun b hb hF => ?_, he.len, fun i hi => ⟨(he.keep i hi).cells, (he.keep i hi).row, (he.keep i hi).map⟩, fun i x hx => ?_⟩, fun i x hx => ?_, fun d hd => ?_⟩
        · show (W.putObj _ _).heap.size ≤ (w1.putObj _ _).heap.size
          rw [hszb, World.putObj_size]
          have := he.size; rw [hrw, hw2] at this; exact this
        · have := he.os; rw [hrw, hw2] at this; exact this
        · have := he.tape; rw [hrw, hw2] at this; exact this
        · have := he.output; rw [hrw, hw2] at this; exact this
        · have hb : b < W.heap.size := by rw [← hszb]; exact hb
          obtain ⟨h1, h2⟩ := he.block b (by rw [hrw]; exact hb) hn
          rw [hrw, hw2] at h1
          refine ⟨?_, h2⟩
          show (w1.putObj _ _).heap[b]? = (W.putObj _ _).heap[b]?
          by_cases hbb : b = S.w.heap.size + 1
          · subst hbb
            rw [World.putObj_heap_same (Array.getElem?_eq_some_iff.1 hL2).1, World.putObj_heap_same hltW]
          · rw [hs _ _ hbb, hs _ _ hbb]; exact h1
        · have hb : b < W.heap.size := by rw [← hszb]; exact hb
          exact he.Fnew b (by rw [hrw]; exact hb) hF
        · rcases he.fresh i x hx with h1 | h1
          · exact .inl h1
          · right
            show (W.putObj _ _).heap.size ≤ _
            rw [hszb, ← hrw]; exact h1
        · have := hinv2.loc i x hx
          show (W.putObj _ _).heap.size ≤ _
          rw [hszb, ← hrw]; exact this
        · have := hinv2.mkd d hd
          show (W.putObj _ _).heap.size ≤ _
          rw [hszb, ← hrw]; exact this
      have hyy := hy (S.w.heap.size + 1) _ _ _ _ _ _ hq hrel3 hinv3
      refine wpIn_mono hyy ?_
      rintro e a2 w3 ⟨st2, H2, S4, hw4, hrel4, hinv4, hq2⟩
      obtain ⟨S5, c1, c2, c3, c0, c4, c5, c6, _⟩ := Rel.close hrel4 hinv4
      have nxt : ∀ (jump : Option Code), okRound os H2 = true → ∃ S6 : Sig, (Instr.endRound (S.w.heap.size + 1) jump).run P w3 = .ok (.bool jump.isNone) (w3.putObj (S.w.heap.size + 1) (.loop (rec (if jump.isNone then .ready else .done) jump))) ∧
          M (rec (if jump.isNone then .ready else .done) jump) H2 (w3.putObj (S.w.heap.size + 1) (.loop (rec (if jump.isNone then .ready else .done) jump))) S6 ∧
          ∀ b, b < W.heap.size → b ≠ S.w.heap.size + 1 → (∀ r x, S'.blk r = some x → x.1 ≠ b) → (w3.putObj (S.w.heap.size + 1) (.loop (rec (if jump.isNone then .ready else .done) jump))).heap[b]? = W.heap[b]? ∧ (∀ r x, S6.blk r = some x → x.1 ≠ b) ∧ (¬ S'.F b → ¬ S6.F b) := fun jump hokr => by
        have hw5 : S5.w = w3 := c1.trans hw4
        obtain ⟨d1, d2, d3⟩ := hm.next st.loc.length rb (rec (if jump.isNone then .ready else .done) jump) c2 c3 c0 c4 c5 c6 hokr
        rw [hw5] at d1 d2 d3
        refine ⟨_, ?_, d2, d3⟩
        have := run_endRound (P := P) jump d1
        rw [hrb, hrec] at this
        rw [hrec]
        exact this
      have hq3 : okRound os H2 = true := by
        cases hk : okRound os H2 with
        | true => rfl
        | false => cases e <;> simp only [hk] at hq2 <;> exact hq2.elim
      cases e with
      | normal =>
        simp only [hq3] at hq2
        obtain ⟨S6, n1, n2, n3⟩ := nxt none hq3
        refine ⟨_, _, n1, .inl ⟨rfl, ⟨H2, S6, n2, hq2, fun b hb => ?_⟩, fun b hb => ?_⟩⟩
        · obtain ⟨g1, g2, g4, g3⟩ := hR b hb
          have g5 : b ≠ S.w.heap.size + 1 := by omega
          refine ⟨?_, (n3 b g1 g5 g2).2.1, (n3 b g1 g5 g2).2.2 g4, g3⟩
          have := n2.ext.size
          have h9 := (n3 b g1 g5 g2).1
          have h10 : W.heap[b]? = some W.heap[b] := Array.getElem?_eq_getElem g1
          rw [h10] at h9
          exact (Array.getElem?_eq_some_iff.1 h9).1
        · obtain ⟨g1, g2, g4, g3⟩ := hR b hb
          exact (n3 b g1 (by omega) g2).1
      | ret =>
        simp only [hq3] at hq2
        obtain ⟨S6, n1, n2, n3⟩ := nxt (some .ret) hq3
        exact ⟨_, _, n1, .inr ⟨rfl, H2, S6, .ret, n2, .inl ⟨rfl, hq2⟩⟩⟩
      | exit id =>
        simp only [hq3] at hq2
        obtain ⟨S6, n1, n2, n3⟩ := nxt (some (.exit id)) hq3
        exact ⟨_, _, n1, .inr ⟨rfl, H2, S6, .exit id, n2, .inr ⟨id, rfl, hq2⟩⟩⟩
      | goto t => exact hq2.elim
      | panic ch => exact hq2.elim
      | outgrown => exact hq2.elim
    | exit id => exact hq.elim
    | ret => exact hq.elim
    | goto t => exact hq.elim
    | panic ch => exact hq.elim
    | outgrown => exact hq.elim
  · -- the start
    refine ⟨os, { S.sub rs with w := W1 }, ⟨rfl, hos, rfl, rfl, rfl, hwf1, ?_, okRound_refl os, hL1, hB1, fun b hb => ⟨fun r x hx => ?_, fun hF => ?_⟩⟩, h, fun b hb => hb.elim⟩
    · refine ⟨by show S.w.heap.size ≤ W1.heap.size; omega, hos1.1, hos1.2.1, hos1.2.2, fun b hb hn => ⟨hold b hb, hn⟩, fun _ h => h, fun _ _ h => .inl h, Nat.le_refl _, fun _ _ => .refl rfl rfl, fun i x hx => .inl ⟨x, hx, rfl⟩⟩
    · have := hwf0.lt r x hx
      rw [hwS] at this hb
      omega
    · have := (hwf0.frozen b hF).1
      rw [hwS] at this hb
      omega
  · -- behind the iterator
    rintro e W2 ⟨⟨v, rfl⟩, hj⟩
    rcases hj with ⟨R, H', S', hm, hq, _⟩ | ⟨H', S', c, hm, hq⟩
    · have hend := run_endLoop (P := P) hm.rcd (by rw [hrec]; simp)
      obtain ⟨S3, g1, g2, g3⟩ := fin .n H' S' W2 _ .exhausted hm (hnil _ hq)
      refine ⟨none, _, by rw [hrec] at hend; exact hend, ?_⟩
      refine ⟨_, _, S3, ?_, g2, g3, hnil _ hq⟩
      rw [g1, hrec]; rfl
    · have hend := run_endLoop (P := P) hm.rcd (by rw [hrec]; simp)
      refine ⟨some c, _, by rw [hrec] at hend; exact hend, ?_⟩
      rcases hq with ⟨rfl, hq⟩ | ⟨id, rfl, hq⟩
      · obtain ⟨S3, g1, g2, g3⟩ := fin .r H' S' W2 _ .exhausted hm hq
        refine wpIn_ret ⟨_, _, S3, ?_, g2, g3, hq⟩
        rw [g1, hrec]; rfl
      · obtain ⟨S3, g1, g2, g3⟩ := fin (.x id) H' S' W2 _ .exhausted hm hq
        refine wpIn_exit ⟨_, _, S3, ?_, g2, g3, hq⟩
        rw [g1, hrec]; rfl
theorem Zmw {E : Env} (hE : EnvOk P E) {g : Operand} {ps : Array Tmp} {x y : Code} (Q : Post)
    (hx : ∀ (l : Nat) (S0 : Sig) (Q : Post) (st : St) (H : Heap) (a : Act) (S : Sig), evCode E x st H Q → Rel (lfs E.T) st H a S → Inv S0 S → x.wpIn (FR (some l)) 0 P (PostC E.T S0 Q) a S.w)
    (hy : ∀ (l : Nat) (S0 : Sig) (Q : Post) (st : St) (H : Heap) (a : Act) (S : Sig), evCode E y st H Q → Rel (lfs E.T) st H a S → Inv S0 S → y.wpIn (FR (some l)) 0 P (PostC E.T S0 Q) a S.w)
    (hrel : Rel (lfs E.T) st H a S) (hinv : Inv S0 S) {f : FuncId} {caps : List D} (hg : st.eval g = .fn f caps) {rs : List Ref} (hok : okRefs st H rs st.tmps = true) (hent : E.ent f = true) (hcap : D.anyL (fun _ => true) caps = false)
    {rows : List (List V)} (hit : E.iter f caps rows)
    (h : match E.anyI f with
      | false => rangeR (evCode E x) (evCode E y) ps.toList (E.row f) (objsOf st H rs) (D.mapRL (renR rs) st.tmps) (List.replicate st.loc.length .dead) (fun e H2 => Q e (updLoc rs H2 st) (updOwn rs H2 H)) rows (objsOf st H rs)
      | true => rangeS (evCode E x) (evCode E y) ps.toList (E.row f) (objsOf st H rs) (D.mapRL (renR rs) st.tmps) (List.replicate st.loc.length .dead) (fun e H2 => Q e (updLoc rs H2 st) (updOwn rs H2 H)) rows.length rows (objsOf st H rs)) (n : Nat) :
    (Code.rangeFunc g ps x y).wpIn (FR none) n P (PostC E.T S0 Q) a S.w := by
  cases hb : E.anyI f with
  | false =>
    rw [hb] at h
    refine Zia hE Q hx hy hrel hinv hg hok hent hcap hit (rangeR (evCode E x) (evCode E y) ps.toList (E.row f) (objsOf st H rs) (D.mapRL (renR rs) st.tmps) (List.replicate st.loc.length .dead) (fun e H2 => Q e (updLoc rs H2 st) (updOwn rs H2 H))) (fun _ h => h) (fun xs r xs' H2 hn h => ?_) h n
    rw [hb] at hn
    have hn : xs = r :: xs' := hn
    subst hn
    exact h
  | true =>
    rw [hb] at h
    refine Zia hE Q hx hy hrel hinv hg hok hent hcap hit (fun xs => rangeS (evCode E x) (evCode E y) ps.toList (E.row f) (objsOf st H rs) (D.mapRL (renR rs) st.tmps) (List.replicate st.loc.length .dead) (fun e H2 => Q e (updLoc rs H2 st) (updOwn rs H2 H)) xs.length xs) (fun _ h => h) (fun xs r xs' H2 hn h => ?_) h n
    rw [hb] at hn
    obtain ⟨i, hi, rfl, rfl⟩ : ∃ i, i < xs.length ∧ r = xs.getD i [] ∧ xs' = xs.eraseIdx i := hn
    have h : rangeS _ _ _ _ _ _ _ _ xs.length xs H2 := h
    have e : xs.length = (xs.eraseIdx i).length + 1 := by rw [List.length_eraseIdx_of_lt hi]; omega
    rw [e] at h
    exact h i hi
end Go.Abs
namespace Go.Abs
variable {P:Program} {T:Tab} {S0:Sig} {o:Oper} {a:Act} {S:Sig} {st:St} {H:Heap}
theorem joinIf_eq (b:Bool) (f:St→Heap→Post→Prop):joinIf b f=f:=by cases b <;> rfl
theorem postC_out {Q:Ex→St→Heap→Prop}:¬ LetsOut (PostC T S0 Q):=fun ⟨_,_,_,_,_,_,_,_,h⟩=>h
theorem sound_code {E:Env} (hE:EnvOk P E):∀ (c:Code) (ro:Option Nat) (n:Nat) (S0:Sig),(ro=none∨noDefer c=true)→∀ (Q:Ex→St→Heap→Prop) (st:St) (H:Heap) (a:Act) (S:Sig),evCode E c st H Q→Rel (lfs E.T) st H a S→Inv S0 S →
  c.wpIn (FR ro) n P (PostC E.T S0 Q) a S.w:=by
 intro c
 induction c with
 | skip=>exact fun ro n S0 _ Q st H a S h hrel hinv=>wpIn_skip ⟨st,H,S,rfl,hrel,hinv,h⟩
 | region id ops draw =>
  intro ro n S0 hnd Q st H a S h hrel hinv
  have hnd2:ro=none∨ops.toList.any opDefer=false:=hnd.imp (fun h=>h) fun h=>by simpa [noDefer] using h
  cases draw with
  | true =>
   simp only [evCode] at h
   obtain ⟨st',S',k1,k2,k3,k4⟩:=Rel.frz (E.frz id) _ h hrel hinv
   rw [← k2]
   clear h hrel hinv
   split at k1
   ·split at k1
    ·rename_i hs
     exact wpIn_region_any hE.mixed (anyIn postC_out hnd2 _ _ _ _ (every_region hE Q hs k3 k4 k1))
    ·exact k1.elim
   split at k1
   ·rename_i hB
    exact wpIn_region_any hE.mixed (anyIn postC_out hnd2 _ _ _ _ (draw_sound hE id ops (E.cut id) (E.flt id) (E.late id) Q hB k3 k4 k1))
   ·exact k1.elim
  | false =>
   simp only [evCode] at h
   obtain ⟨st',S',k1,k2,k3,k4⟩:=Rel.frz (E.frz id) _ h hrel hinv
   rw [← k2]
   exact wpIn_region_list (listIn postC_out _ _ _ hnd2 (sound_ops hE ops Q _ _ _ _ _ k1 k3 k4))
 | seq x y ihx ihy =>
  intro ro n S0 hnd Q st H a S h hrel hinv
  simp only [evCode] at h
  refine wpIn_seq (wpIn_mono (ihx ro n S0 (hnd.imp (fun h=>h) fun h=>by simp only [noDefer,Bool.and_eq_true] at h; exact h.1) _ _ _ _ _ h hrel hinv) fun e a' w' hp=>?_)
  obtain ⟨st',H',S',hw,h1,h2,h3⟩:=hp
  subst hw
  cases e with
  | normal =>
   obtain ⟨S'',hw,h1',h2'⟩:=Rel.adj (E.adj (3000000+key y)) h2 h1
   rw [← hw]
   have h4:joinIf (E.join (key y)) (evCode E y) _ _ _:=h3
   rw [joinIf_eq] at h4
   exact ihy ro n S0 (hnd.imp (fun h=>h) fun h=>by simp only [noDefer,Bool.and_eq_true] at h; exact h.2) _ _ _ _ _ h4 h1' h2'
  | exit id=>exact ⟨st',H',S',rfl,h1,h2,h3⟩
  | ret=>exact ⟨st',H',S',rfl,h1,h2,h3⟩
  | goto l=>exact h3.elim
  | panic ch=>exact h3.elim
  | outgrown=>exact h3.elim
 | cond c x y ihx ihy =>
  intro ro n S0 hnd Q st H a S h hrel hinv
  simp only [evCode] at h
  split at h
  ·rename_i b hb
   have hc:=hrel.eval c
   rw [hb] at hc
   have hc':=hc.bool_inv
   unfold iff iffC at h
   cases hbb:b.bool with
   | true=>rw [hbb] at h hc'; exact wpIn_cond_true hc' (ihx ro n S0 (hnd.imp (fun h=>h) fun h=>by simp only [noDefer,Bool.and_eq_true] at h; exact h.1) _ _ _ _ _ h hrel hinv)
   | false=>rw [hbb] at h hc'; exact wpIn_cond_false hc' (ihy ro n S0 (hnd.imp (fun h=>h) fun h=>by simp only [noDefer,Bool.and_eq_true] at h; exact h.2) _ _ _ _ _ h hrel hinv)
  ·exact h.elim
 | block id c ih =>
  intro ro n S0 hnd Q st H a S h hrel hinv
  simp only [evCode] at h
  refine wpIn_block (wpIn_mono (ih ro n S0 hnd _ _ _ _ _ h hrel hinv) fun e a' w' hp=>?_)
  obtain ⟨st',H',S',hw,h1,h2,h3⟩:=hp
  subst hw
  cases e with
  | normal=>exact ⟨st',H',S',rfl,h1,h2,h3⟩
  | exit j =>
   simp only [Exit.inBlock]
   by_cases hj:j=id
   ·subst hj
    rw [if_pos rfl]
    refine ⟨st',H',S',rfl,h1,h2,?_⟩
    have hbeq:Nat.beq j j=true:=Nat.beq_refl j
    simp only [blockK,hbeq] at h3
    exact h3
   ·rw [if_neg hj]
    have hbeq:Nat.beq j id=false:=by
     cases hb:Nat.beq j id with
     | true=>exact absurd (Nat.eq_of_beq_eq_true hb) hj
     | false=>rfl
    refine ⟨st',H',S',rfl,h1,h2,?_⟩
    simp only [blockK,hbeq] at h3
    exact h3
  | ret=>exact ⟨st',H',S',rfl,h1,h2,h3⟩
  | goto l=>exact h3.elim
  | panic ch=>exact h3.elim
  | outgrown=>exact h3.elim
 | loop c ih =>
  intro ro n S0 hnd Q st H a S h hrel hinv
  simp only [evCode] at h
  obtain ⟨m,hm⟩:=h
  obtain ⟨S',hw,hrel',hinv'⟩:=Rel.adj (E.adj (key c)) hinv hrel
  refine wpIn_loop_rounds m ?_
  rw [← hw]
  clear hw hrel hinv
  revert hm hrel' hinv'
  generalize Abs.adj (E.adj (key c)) st=st2
  intro hm hrel hinv
  induction m generalizing st2 H a S' with
  | zero=>exact hm.elim
  | succ m ihm =>
   rw [roundsIn_succ]
   refine wpIn_mono (ih ro n S0 hnd _ _ _ _ _ hm hrel hinv) fun e a' w' hp=>?_
   obtain ⟨st',H',S',hw,h1,h2,h3⟩:=hp
   subst hw
   cases e with
   | normal =>
    obtain ⟨S'',hw,h1',h2'⟩:=Rel.adj (E.adj (key c)) h2 h1
    rw [← hw]
    exact ihm _ _ _ _ h3 h1' h2'
   | exit id=>exact ⟨st',H',S',rfl,h1,h2,h3⟩
   | ret=>exact ⟨st',H',S',rfl,h1,h2,h3⟩
   | goto l=>exact h3.elim
   | panic ch=>exact h3.elim
   | outgrown=>exact h3.elim
 | exit id=>exact fun ro n S0 _ Q st H a S h hrel hinv=>wpIn_exit ⟨st,H,S,rfl,hrel,hinv,h⟩
 | ret=>exact fun ro n S0 _ Q st H a S h hrel hinv=>wpIn_ret ⟨st,H,S,rfl,hrel,hinv,h⟩
 | rangeFunc g ps x y ihx ihy =>
  intro ro n S0 hnd Q st0 H a S h hrel hinv
  have hro:ro=none:=hnd.elim id fun h=>by cases h
  subst hro
  simp only [evCode] at h
  obtain ⟨S',hw,hrel',hinv'⟩:=Rel.adj (E.adj (key y)) hinv hrel
  rw [← hw]
  split at h
  ·rename_i f caps hg hb
   rw [Bool.and_eq_true,Bool.and_eq_true] at hb
   split at h
   ·rename_i hent hcap
    split at h <;>
    ·rename_i hai
     obtain ⟨rows,hit,h⟩:=h
     exact Zmw hE Q (fun l S0=>ihx (some l) 0 S0 (.inr hb.1.2)) (fun l S0=>ihy (some l) 0 S0 (.inr hb.2)) hrel' hinv' hg hb.1.1 hent hcap hit (by rw [hai]; exact h) n
   ·exact h.elim
  ·exact h.elim
 | scope c _=>exact fun _ _ _ _ Q st H a S h=>h.elim
 | label l=>exact fun _ _ _ _ Q st H a S h=>h.elim
 | goto l=>exact fun _ _ _ _ Q st H a S h=>h.elim
 | refuse w=>exact fun _ _ _ _ Q st H a S h=>h.elim
theorem resOf_run (hT:TabOk P T) (hrel:Rel (lfs T) st H a S) (r:ResultVar) (hr:resOk T st r=true) :
  ∃ v,((match r with | .tmp t=>pure (a.tmps.getD t undef) | .cell x t=>do loadVar t (← asAddr (a.tmps.getD x undef)):Sem Value)).run P S.w=.ok v S.w∧RepD (lfs T) S (resOf T st r) v:=by
 cases r with
 | tmp t=>exact ⟨_,rfl,hrel.rep t⟩
 | cell x t =>
  simp only [resOk,resOf] at hr ⊢
  split at hr
  ·rename_i i hx
   split at hr
   ·rename_i cs hi
    obtain ⟨h2,h3⟩:cs.length=(T.get t).lf.length∧0<(T.get t).lf.length:=by simpa using hr
    have hob:S.obj (.loc i)=.cells cs:=by rw [hrel.getO_obj]; exact hi
    have hp:=hrel.rep x
    rw [hx] at hp
    obtain ⟨v,g1,g2⟩:=run_loadObj hT hrel.wf h3 hob (off:=0) (by omega) hp
    obtain ⟨b,c,e,arr,hb,_⟩:=hrel.wf.cells hob
    have hpv:=hp.ptr_inv hob hb
    refine ⟨v,?_,?_⟩
    ·rw [hpv] at g1 ⊢
     simpa [Instr.loadAt,Instr.sureAddr,asAddr,Sem.run,pure] using g1
    ·rw [List.drop_zero,List.take_of_length_le (by omega)] at g2
     rw [hi]
     simp only [Obj.cs,h2]
     simpa using g2
   ·cases hr
  ·cases hr
theorem resL_run (hT:TabOk P T) (hrel:Rel (lfs T) st H a S):∀ (l:List ResultVar),l.all (resOk T st)=true→∃ vs:List Value,((l.mapM fun | .tmp t=>pure (a.tmps.getD t undef) | .cell x t=>do loadVar t (← asAddr (a.tmps.getD x undef)):Sem (List Value))).run P S.w=.ok vs S.w ∧
  vs.length=l.length∧∀ j,j<l.length→RepD (lfs T) S ((l.map (resOf T st)).getD j .undef) (vs.getD j undef)
 | [],_=>⟨[],rfl,rfl,fun j hj=>by simp at hj⟩
 | r::l,h=>by
  have h':resOk T st r=true∧l.all (resOk T st)=true:=by simpa using h
  obtain ⟨v,g1,g2⟩:=resOf_run hT hrel r h'.1
  obtain ⟨vs,k1,k2,k3⟩:=resL_run hT hrel l h'.2
  refine ⟨v::vs,?_,by simp [k2],fun j hj=>?_⟩
  ·rw [List.mapM_cons,run_bind_ok _ _ _ _ _ g1,run_bind_ok _ _ _ _ _ k1]
   rfl
  ·cases j with
   | zero=>exact g2
   | succ j=>exact k3 j (by simpa using hj)
theorem results_run (hT:TabOk P T) (hrel:Rel (lfs T) st H a S) (fn:Func) (h:fn.results.toList.all (resOk T st)=true):∃ v,(results fn a.tmps).run P S.w=.ok v S.w∧RepD (lfs T) S (resD T fn st) v:=by
 obtain ⟨vs,k1,k2,k3⟩:=resL_run (P:=P) hT hrel fn.results.toList h
 have hm:(fn.results.mapM fun | .tmp t=>pure (a.tmps.getD t undef) | .cell x t=>do loadVar t (← asAddr (a.tmps.getD x undef)):Sem (Array Value)).run P S.w=.ok vs.toArray S.w:=by
  have e:fn.results=fn.results.toList.toArray:=by simp
  rw [e,List.mapM_toArray,Sem.run_map,k1]
  rfl
 have hr:(results fn a.tmps).run P S.w=.ok (if h:vs.toArray.size=1 then vs.toArray[0] else .tuple vs.toArray) S.w:=by
  unfold results
  exact run_bind_ok _ _ _ _ _ hm
 rw [hr]
 unfold resD
 by_cases h1:vs.toArray.size=1
 ·rw [dif_pos h1]
  have h2:fn.results.toList.length=1:=by rw [← k2]; simpa using h1
  match hl:fn.results.toList,h2 with
  | [r],_ =>
   rw [hl] at k3
   refine ⟨_,rfl,?_⟩
   have:=k3 0 (by simp)
   have e0:vs.toArray[0]=vs.getD 0 undef:=by
    rw [List.getD_eq_getElem?_getD,List.getElem?_eq_getElem (by simpa using (by omega:0<vs.toArray.size))]; rfl
   rw [e0]
   exact this
 ·rw [dif_neg h1]
  refine ⟨_,rfl,?_⟩
  split
  ·rename_i r hl
   rw [hl] at k2
   simp [k2] at h1
  ·refine .tup _ vs (by simp [k2]) (repD_of_list (by simp [k2]) fun j hj=>?_)
   exact k3 j (by omega)
theorem acalls_of_fn {E:Env} (hE:EnvOk P E) {f:FuncId} {fn:Func} (extra:Nat) {args:List D} {H:Heap} {Q:D→Heap→Prop} (hf:P.funcs[f]?=some fn) (h:evFn E fn extra args H Q):ACalls P (lfs E.T) f args H Q:=by
 intro S vs hH hL hla hmks hwf hlen hrep hloc
 unfold evFn at h
 split at h
 ·exact h.elim
 ·rename_i c hb
  let n:=fn.ntmps+extra
  let S1:Sig:={ S with L:=List.replicate n .dead,la:=List.replicate n none }
  have hrepl:∀ i,(List.replicate n Obj.dead).getD i .dead=.dead:=fun i=>by
   simp only [List.getD_eq_getElem?_getD,List.getElem?_replicate]; split <;> rfl
  have hrepn:∀ i,(List.replicate n (none:Option (Nat×Nat))).getD i none=none:=fun i=>by
   simp only [List.getD_eq_getElem?_getD,List.getElem?_replicate]; split <;> rfl
  have hb1:∀ r,S1.blk r=S.blk r:=fun r=>by
   cases r with
   | loc i=>show (List.replicate n none).getD i none=S.la.getD i none; rw [hrepn,hla]; rfl
   | own i=>rfl
  have ho1:∀ r,S1.obj r=S.obj r:=fun r=>by
   cases r with
   | loc i=>show (List.replicate n .dead).getD i .dead=S.L.getD i .dead; rw [hrepl,hL]; rfl
   | own i=>rfl
  have mD:∀ {d:D} {u:Value},RepD (lfs E.T) S d u→RepD (lfs E.T) S1 d u:=fun {d u} h =>
   RepD.mono (S:=S) (S':=S1) (Nat.le_refl _) (fun _ h=>h) (fun _ _=>rfl) (p:=fun _=>false) (fun r _ _=>.refl (ho1 r) (hb1 r)) (anyR_false d) h
  have hwf1:Wf (lfs E.T) S1:=by
   refine ⟨fun b hF=>⟨(hwf.frozen b hF).1,fun r x h=>(hwf.frozen b hF).2 r x (hb1 r▸h)⟩,fun r r' x x' h h'=>hwf.inj r r' x x' (hb1 r▸h) (hb1 r'▸h'),fun r x h=>hwf.lt r x (hb1 r▸h),fun r=>?_,hwf.own,hwf.mulen,by simp [S1],hwf.mark.1,fun d hd=>by rw [show S1.mks=[] from hmks] at hd; cases hd⟩
   rw [ho1,hb1]
   have:=hwf.obj r
   cases hr:S.obj r with
   | cells cs =>
    rw [hr] at this
    obtain ⟨b,c,e,arr,h3,h4,h5,h6⟩:=this
    exact ⟨b,c,e,arr,h3,h4,h5,fun j hj=>⟨mD (h6 j hj).1,(h6 j hj).2⟩⟩
   | row e xs=>rw [hr] at this; exact this
   | map m xs=>rw [hr] at this; exact this
   | iter m x n s =>
    rw [hr] at this
    obtain ⟨b,c,mb,h3,h4,h5,h6⟩:=this
    exact ⟨b,c,mb,h3,h4,mD h5,h6⟩
   | dead=>rw [hr] at this; exact this
  have hrel:Rel (lfs E.T) ⟨args++List.replicate (fn.ntmps - args.length) .skip,List.replicate n .dead⟩ H { tmps:=vs.toArray++Array.replicate (fn.ntmps - vs.toArray.size) undef,defers:=[] } S1:=by
   refine ⟨hH,rfl,by simp [hlen],by unfold marks; rw [show S1.mks=[] from hmks]; rfl,fun j=>?_,hwf1⟩
   by_cases hj:j<args.length
   ·have e1:(args++List.replicate (fn.ntmps - args.length) D.skip).getD j .undef=args.getD j .undef:=by
     rw [List.getD_eq_getElem?_getD,List.getElem?_append_left hj,← List.getD_eq_getElem?_getD]
    have e2:(vs.toArray++Array.replicate (fn.ntmps - vs.toArray.size) undef).getD j undef=vs.getD j undef:=by
     rw [Array.getD_eq_getD_getElem?,Array.getElem?_append_left (by simp; omega),List.getElem?_toArray,List.getD_eq_getElem?_getD]
    rw [e1,e2]
    exact mD (hrep j)
   ·by_cases hj2:j - args.length<fn.ntmps - args.length
    ·have e1:(args++List.replicate (fn.ntmps - args.length) D.skip).getD j .undef=.skip:=by
      rw [List.getD_eq_getElem?_getD,List.getElem?_append_right (by omega),List.getElem?_replicate,if_pos hj2]; rfl
     have e2:(vs.toArray++Array.replicate (fn.ntmps - vs.toArray.size) undef).getD j undef=undef:=by
      rw [Array.getD_eq_getD_getElem?,Array.getElem?_append_right (by simp; omega),Array.getElem?_replicate]; simp only [List.size_toArray]; split <;> rfl
     rw [e1,e2]
     exact .skip
    ·have e1:(args++List.replicate (fn.ntmps - args.length) D.skip).getD j .undef=.undef:=by
      rw [List.getD_eq_getElem?_getD,List.getElem?_append_right (by omega),List.getElem?_replicate,if_neg hj2]; rfl
     rw [e1]
     exact .undef _
  have hinv:Inv S S1:=by
   refine ⟨⟨Nat.le_refl _,rfl,rfl,rfl,fun b _ h=>⟨rfl,h⟩,fun _ h=>h,fun _ _ h=>.inl h,Nat.le_refl _,fun _ _=>.refl rfl rfl,fun i x hx=>.inl ⟨x,hx,rfl⟩⟩,fun i x hx=>?_,fun d hd=>by rw [show S1.mks=[] from hmks] at hd; cases hd⟩
   rw [hb1] at hx
   have:S.blk (.loc i)=none:=by show S.la.getD i none=none; rw [hla]; rfl
   rw [this] at hx; cases hx
  obtain ⟨S2,hw2,hrel,hinv⟩:=Rel.adj (E.adj 1000000) hinv hrel
  have hw2':S2.w=S.w:=hw2
  refine (callsIn_wide (n:=0)).1 ?_
  show CallsIn (FR none) 0 P f vs.toArray S.w _
  refine callsIn_of_wp_marks hf hb trivial ?_ rfl
  rw [← hw2']
  refine wpIn_mono (sound_code hE c none 0 S (.inl rfl) _ _ _ _ S2 h hrel hinv) fun e a' w' hp=>?_
  obtain ⟨st',H',S',hw,h1,h2,h3⟩:=hp
  have fin:(match fn.results.toList.all (resOk E.T st'),D.local (frz st'.loc (resD E.T fn st')),keepOk E.keep st'.loc (resD E.T fn st') with
   | true,false,true=>frzOk st'.loc (resD E.T fn st')∧Q (frz st'.loc (resD E.T fn st')) H'
   | _,_,_=>False)→LeavesInM (FR none) 0 P fn a'.tmps (fun e w'=>∃ v r S',e=.returned v∧S'.w=w'∧S'.L=[]∧S'.la=[]∧S'.mks=[]∧Wf (lfs E.T) S'∧RepD (lfs E.T) S' r v∧D.local r=false∧Ext S S'∧Q r S'.H) a'.defers .returning w':=by
   intro h4
   split at h4
   ·rename_i hres hl _
    rw [← hw]
    refine leaves_marks S'.mks a' S' rfl h1 h2 fun a3 S3 e1 e2 e3 h5 h6=>?_
    obtain ⟨v,g1,g2⟩:=results_run (P:=P) hE.tab h5 fn hres
    obtain ⟨S'',k1,k2,k3,k0,k4,k5,k6,k7⟩:=Rel.close h5 h6
    exact ⟨v,g1,v,_,S'',rfl,k1,k2,k3,k0,k5,k7 g2 h4.1 hl,hl,k6,by rw [k4]; exact h4.2⟩
   ·exact h4.elim
  cases e with
  | normal=>exact fin h3
  | ret=>exact fin h3
  | exit id=>exact h3.elim
  | goto l=>exact h3.elim
  | panic ch=>exact h3.elim
  | outgrown=>exact h3.elim
theorem flat_repK {lf:TypeId→List K} {w w':World} {F F':Nat→Prop} {k:K} {x:V} {u:Value} (hk:k.isKey=true) (h:RepK lf w F k x u):RepK lf w' F' k x u:=by
 cases h with
 | int k x=>exact .int k x
 | bool x=>exact .bool x
 | str x h=>exact .str x h
 | sl0=>cases hk
 | sl=>cases hk
 | mp0=>cases hk
 | mp=>cases hk
theorem EnvOk.kept {E:Env} (hE:EnvOk P E):EnvOk P { E with keep:=true }:=⟨hE.tab,hE.ent,hE.call,hE.mono,hE.mixed,hE.iter,hE.fresh,hE.ext⟩
theorem afresh_of_fn {E:Env} (hE:EnvOk P E) (hkp:E.keep=true) {f:FuncId} {fn:Func} (extra:Nat) {args:List D} {e:TypeId} {xs:List (List V)} (hflat:(lfs E.T e).all K.isKey=true) (harg:D.anyL (fun _=>true) args=false)
  (hf:P.funcs[f]?=some fn) (h:evFn E fn extra args [] (fun d _=>d=.v (.sl e) (.l xs))):AFresh P (lfs E.T) f args e xs:=by
 intro S vs hwf00 hlen hrep00
 obtain ⟨S0,hS0⟩:∃ S0,S0=S.sub []:=⟨_,rfl⟩
 have hH:S0.H=[]:=by rw [hS0]; rfl
 have hL:S0.L=[]:=by rw [hS0]; rfl
 have hla:S0.la=[]:=by rw [hS0]; rfl
 have hmu:S0.mu=[]:=by rw [hS0]; rfl
 have hmks:S0.mks=[]:=by rw [hS0]; rfl
 have hw0:S0.w=S.w:=by rw [hS0]; rfl
 have hwf:Wf (lfs E.T) S0:=by rw [hS0]; exact hwf00.sub rfl (fun r hr=>by cases hr) (fun r hr=>by cases hr)
 have hrep:∀ j,RepD (lfs E.T) S0 (args.getD j .undef) (vs.getD j undef):=fun j=>by
  have hn:D.anyR (fun _=>true) (args.getD j .undef)=false:=anyL_getD j harg
  have:=RepD.ren (S:=S) (S':=S.sub []) (fun _ h=>h) (fun _ _=>rfl) (renR []) (hrep00 j) (fun r hr'=>by
   have:=(anyR_refs _).1 hn r hr'; cases this)
  rw [mapR_none _ _ hn] at this
  rw [hS0]; exact this
 rw [← hw0]
 clear hS0 hwf00 hrep00
 suffices hs:∀ R:Ending→World→Prop,(∀ r w',(∃ v,r=.returned v∧S0.w.grownBy w' none∧((xs=[]∧v=.slice none 0 0)∨∃ b c arr,S0.w.heap.size≤b∧v=.slice (some ⟨b,0,none⟩) xs.length c∧w'.heap[b]?=some (.cells arr e (0,0)) ∧
   arr.size=c*(lfs E.T e).length∧xs.length≤c∧c≤maxLen∧(∀ i,i<xs.length→(xs.getD i []).length=(lfs E.T e).length) ∧
   ∀ i j,i<xs.length→j<(lfs E.T e).length→RepK (lfs E.T) S0.w S.F ((lfs E.T e).getD j .oth) ((xs.getD i []).getD j V.none) (arr.getD (i*(lfs E.T e).length+j) undef)))→R r w')→Calls P f vs.toArray S0.w R from hs _ fun _ _ h=>h
 intro R hR
 unfold evFn at h
 split at h
 ·exact h.elim
 ·rename_i c hb
  let n:=fn.ntmps+extra
  let S1:Sig:={ S0 with L:=List.replicate n .dead,la:=List.replicate n none }
  have hrepl:∀ i,(List.replicate n Obj.dead).getD i .dead=.dead:=fun i=>by
   simp only [List.getD_eq_getElem?_getD,List.getElem?_replicate]; split <;> rfl
  have hrepn:∀ i,(List.replicate n (none:Option (Nat×Nat))).getD i none=none:=fun i=>by
   simp only [List.getD_eq_getElem?_getD,List.getElem?_replicate]; split <;> rfl
  have hb1:∀ r,S1.blk r=S0.blk r:=fun r=>by
   cases r with
   | loc i=>show (List.replicate n none).getD i none=S0.la.getD i none; rw [hrepn,hla]; rfl
   | own i=>rfl
  have ho1:∀ r,S1.obj r=S0.obj r:=fun r=>by
   cases r with
   | loc i=>show (List.replicate n .dead).getD i .dead=S0.L.getD i .dead; rw [hrepl,hL]; rfl
   | own i=>rfl
  have mD:∀ {d:D} {u:Value},RepD (lfs E.T) S0 d u→RepD (lfs E.T) S1 d u:=fun {d u} h =>
   RepD.mono (S:=S0) (S':=S1) (Nat.le_refl _) (fun _ h=>h) (fun _ _=>rfl) (p:=fun _=>false) (fun r _ _=>.refl (ho1 r) (hb1 r)) (anyR_false d) h
  have hwf1:Wf (lfs E.T) S1:=by
   refine ⟨fun b hF=>⟨(hwf.frozen b hF).1,fun r x h=>(hwf.frozen b hF).2 r x (hb1 r▸h)⟩,fun r r' x x' h h'=>hwf.inj r r' x x' (hb1 r▸h) (hb1 r'▸h'),fun r x h=>hwf.lt r x (hb1 r▸h),fun r=>?_,hwf.own,hwf.mulen,by simp [S1],hwf.mark.1,fun d hd=>by rw [show S1.mks=[] from hmks] at hd; cases hd⟩
   rw [ho1,hb1]
   have:=hwf.obj r
   cases hr:S0.obj r with
   | cells cs =>
    rw [hr] at this
    obtain ⟨b,c,e,arr,h3,h4,h5,h6⟩:=this
    exact ⟨b,c,e,arr,h3,h4,h5,fun j hj=>⟨mD (h6 j hj).1,(h6 j hj).2⟩⟩
   | row e xs=>rw [hr] at this; exact this
   | map m xs=>rw [hr] at this; exact this
   | iter m x n s =>
    rw [hr] at this
    obtain ⟨b,c,mb,h3,h4,h5,h6⟩:=this
    exact ⟨b,c,mb,h3,h4,mD h5,h6⟩
   | dead=>rw [hr] at this; exact this
  have hrel:Rel (lfs E.T) ⟨args++List.replicate (fn.ntmps - args.length) .skip,List.replicate n .dead⟩ [] { tmps:=vs.toArray++Array.replicate (fn.ntmps - vs.toArray.size) undef,defers:=[] } S1:=by
   refine ⟨hH,rfl,by simp [hlen],by unfold marks; rw [show S1.mks=[] from hmks]; rfl,fun j=>?_,hwf1⟩
   by_cases hj:j<args.length
   ·have e1:(args++List.replicate (fn.ntmps - args.length) D.skip).getD j .undef=args.getD j .undef:=by
     rw [List.getD_eq_getElem?_getD,List.getElem?_append_left hj,← List.getD_eq_getElem?_getD]
    have e2:(vs.toArray++Array.replicate (fn.ntmps - vs.toArray.size) undef).getD j undef=vs.getD j undef:=by
     rw [Array.getD_eq_getD_getElem?,Array.getElem?_append_left (by simp; omega),List.getElem?_toArray,List.getD_eq_getElem?_getD]
    rw [e1,e2]
    exact mD (hrep j)
   ·by_cases hj2:j - args.length<fn.ntmps - args.length
    ·have e1:(args++List.replicate (fn.ntmps - args.length) D.skip).getD j .undef=.skip:=by
      rw [List.getD_eq_getElem?_getD,List.getElem?_append_right (by omega),List.getElem?_replicate,if_pos hj2]; rfl
     have e2:(vs.toArray++Array.replicate (fn.ntmps - vs.toArray.size) undef).getD j undef=undef:=by
      rw [Array.getD_eq_getD_getElem?,Array.getElem?_append_right (by simp; omega),Array.getElem?_replicate]; simp only [List.size_toArray]; split <;> rfl
     rw [e1,e2]
     exact .skip
    ·have e1:(args++List.replicate (fn.ntmps - args.length) D.skip).getD j .undef=.undef:=by
      rw [List.getD_eq_getElem?_getD,List.getElem?_append_right (by omega),List.getElem?_replicate,if_neg hj2]; rfl
     rw [e1]
     exact .undef _
  have hinv:Inv S0 S1:=by
   refine ⟨⟨Nat.le_refl _,rfl,rfl,rfl,fun b _ h=>⟨rfl,h⟩,fun _ h=>h,fun _ _ h=>.inl h,Nat.le_refl _,fun _ _=>.refl rfl rfl,fun i x hx=>.inl ⟨x,hx,rfl⟩⟩,fun i x hx=>?_,fun d hd=>by rw [show S1.mks=[] from hmks] at hd; cases hd⟩
   rw [hb1] at hx
   have:S0.blk (.loc i)=none:=by show S0.la.getD i none=none; rw [hla]; rfl
   rw [this] at hx; cases hx
  obtain ⟨S2,hw2,hrel,hinv⟩:=Rel.adj (E.adj 1000000) hinv hrel
  have hw2':S2.w=S0.w:=hw2
  refine (callsIn_wide (n:=0)).1 ?_
  show CallsIn (FR none) 0 P f vs.toArray S0.w _
  refine callsIn_of_wp_marks hf hb trivial ?_ rfl
  rw [← hw2']
  refine wpIn_mono (sound_code hE c none 0 S0 (.inl rfl) _ _ _ _ S2 h hrel hinv) fun e0 a' w' hp=>?_
  obtain ⟨st',H',S',hw,h1,h2,h3⟩:=hp
  have fin:(match fn.results.toList.all (resOk E.T st'),D.local (frz st'.loc (resD E.T fn st')),keepOk E.keep st'.loc (resD E.T fn st') with
   | true,false,true=>frzOk st'.loc (resD E.T fn st')∧frz st'.loc (resD E.T fn st')=.v (.sl e) (.l xs)
   | _,_,_=>False)→LeavesInM (FR none) 0 P fn a'.tmps R a'.defers .returning w':=by
   intro h4
   split at h4
   ·rename_i hres hl hko
    rw [← hw]
    refine leaves_marks S'.mks a' S' rfl h1 h2 fun a3 S3 e1 e2 e3 h5 h6=>?_
    obtain ⟨v,g1,g2⟩:=results_run (P:=P) hE.tab h5 fn hres
    refine ⟨v,g1,hR _ _ ⟨v,rfl,⟨h6.ext.os,h6.ext.tape,h6.ext.output,h6.ext.size,fun b hb _=>(h6.ext.block b hb fun i x hx=>by
     have:S0.mu.getD i none=some x:=hx
     rw [hmu] at this; simp at this).1⟩,?_⟩⟩
    obtain ⟨q1,q2⟩:=h4
    generalize resD E.T fn st'=d at g2 q1 q2 hko
    rw [hkp] at hko
    unfold keepOk at hko
    dsimp only at hko
    split at hko
    ·rename_i i n
     split at hko
     ·rename_i e' xs' hrow
      have hob:S3.obj (.loc i)=.row e' xs':=by
       show S3.L.getD i .dead=_
       rw [h5.L]; exact hrow
      simp only [frz,hrow] at q2
      have hq:e'=e∧xs'=xs:=by
       injection q2 with q3 q4
       injection q3 with q3
       injection q4 with q4
       exact ⟨q3,q4⟩
      obtain ⟨rfl,rfl⟩:=hq
      have hn:n=xs'.length:=by
       simp only [frzOk,hrow] at q1; exact q1
      cases g2 with
      | osl _ _ _ k1 k2 =>
      obtain ⟨_,k3⟩:=k2 _ _ hob
      have hv:=k3 hn
      have ho:=h5.wf.obj (.loc i)
      rw [hob] at ho
      rcases ho with ⟨o1,o2⟩ | ⟨b,c,arr,o1,o2,o3,o4,o5,o6,o7⟩
      ·left
       refine ⟨o2,?_⟩
       rw [hv,o1]; rfl
      ·right
       refine ⟨b,c,arr,h6.loc i _ o1,?_,o2,o3,o4,o5,o6,fun i j hi hj=>flat_repK ?_ (o7 i j hi hj)⟩
       ·rw [hv,o1,hn]; rfl
       ·have:=List.all_eq_true.1 hflat ((lfs E.T e').getD j .oth) (by
         rw [List.getD_eq_getElem?_getD,List.getElem?_eq_getElem hj]; exact List.getElem_mem hj)
        exact this
     ·cases hko
    ·cases hko
   ·exact h4.elim
  cases e0 with
  | normal=>exact fin h3
  | ret=>exact fin h3
  | exit id=>exact h3.elim
  | goto l=>exact h3.elim
  | panic ch=>exact h3.elim
  | outgrown=>exact h3.elim
end Go.Abs
