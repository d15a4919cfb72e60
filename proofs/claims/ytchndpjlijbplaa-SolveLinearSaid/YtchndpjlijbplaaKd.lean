/- Part of a proof, made small by a program (wip/mini.py). -/
import Derived.Test.YtchndpjlijbplaaKc
namespace Go.Proofs.Ytchndpjlijbplaa.Am
open Go.RowKit Go.Proofs.Ytchndpjlijbplaa.P
set_option linter.unusedSimpArgs false
set_option linter.unusedVariables false
section
variable {T:Nat->Option Ty} {Γ:Env} {N F e:Nat} {Q Q':Kt} {t:Nat->D} {h:Nat->Option Row}
theorem gN (hm:∀x t h e,Q x t h e->Q' x t h e):∀(ws:List W) (x:Ex) (t:Nat->D) (h:Nat->Option Row) (e:Nat),cv T Γ N F ws Q x t h e->cv T Γ N F ws Q' x t h e
 | [],x,t,h,e,hk=>hm _ _ _ _ hk
 | .code c::ws,x,t,h,e,hk=>by
  unfold cv at hk ⊢
  cases x with
  | normal=>exact TI c t h e _ _ hk (fun x t h e hx=>gN hm ws x t h e hx)
  | exit n=>exact gN hm ws _ t h e hk
  | ret=>exact gN hm ws _ t h e hk
 | .blk id::ws,x,t,h,e,hk=>by
  unfold cv Ui at hk ⊢
  cases x with
  | normal=>exact gN hm ws _ t h e hk
  | exit n =>
   simp only at hk ⊢
   split at hk
   ·rename_i hn;rw[if_pos hn];exact gN hm ws _ t h e hk
   ·rename_i hn;rw[if_neg hn];exact gN hm ws _ t h e hk
  | ret=>exact gN hm ws _ t h e hk
theorem ox:∀(ws:List W) (k:Nat),cv T Γ N F ws Q=cv T Γ N F (ws.take k) (cv T Γ N F (ws.drop k) Q)
 | ws,0=>by simp[cv]
 | [],k+1=>by simp[cv]
 | .code c::ws,k+1=>by
  rw[aef,aee]
  funext x t h e
  unfold cv
  rw[ox ws k]
 | .blk id::ws,k+1=>by
  rw[aef,aee]
  funext x t h e
  unfold cv
  rw[ox ws k]
variable {σ:Type} {ops l:List Oper} {ws:List W} {dst:Option Nat} {fs:List jL} {d:D} {g:Nat}
theorem rK {J:σ->(Nat->D)->(Nat->Option Row)->Nat->Prop} {P:σ->Prop} {R:Kt} (hrest:∀s t h e,J s t h e->P s->R .normal t h e):∀x t h e,CK J P R x t h e->R x t h e:=by
 intro x t h e hx
 cases x with
 | normal=>obtain⟨s,h1,h2⟩:=hx;exact hrest s t h e h2 h1
 | exit n=>exact hx
 | ret=>exact hx
theorem uK (hm:∀x t h e,Q x t h e->Q' x t h e) (hk:kx T Γ N F ops l ws Q t h e):kx T Γ N F ops l ws Q' t h e:=uM (fun t h hh=>gN hm ws _ _ _ _ hh) _ _ _ hk
theorem uL (hm:∀x t h e,Q x t h e->Q' x t h e) (hk:ky T Γ N F ops l ws Q t h e fs):ky T Γ N F ops l ws Q' t h e fs:=uJ (fun t h fs hh=>⟨hh.1,gN hm ws _ _ _ _ hh.2⟩) _ _ _ _ hk
theorem rz (k:Nat):kx T Γ N F ops l ws Q t h e=kx T Γ N F ops l (ws.take k) (cv T Γ N F (ws.drop k) Q) t h e:=by unfold kx;rw[ox ws k]
theorem rA (k:Nat):ky T Γ N F ops l ws Q t h e fs=ky T Γ N F ops l (ws.take k) (cv T Γ N F (ws.drop k) Q) t h e fs:=by unfold ky;rw[ox ws k]
theorem E5 (k:Nat) {o:Oper} : nW T Γ N F o ops l ws Q t h e=nW T Γ N F o ops l (ws.take k) (cv T Γ N F (ws.drop k) Q) t h e:=by
 unfold nW
 congr 1
 funext t E
 rw[rz k]
theorem Fe (k:Nat) {o:Oper} : nX T Γ N F o ops l ws Q t h e fs=nX T Γ N F o ops l (ws.take k) (cv T Γ N F (ws.drop k) Q) t h e fs:=by
 unfold nX
 congr 1
 funext t E
 rw[rA k]
theorem JU {o:Oper} (hm:∀x t h e,Q x t h e->Q' x t h e) (hk:nW T Γ N F o ops l ws Q t h e):nW T Γ N F o ops l ws Q' t h e:=xL hk fun _ _ hh=>uK hm hh
theorem J0 {o:Oper} (hm:∀x t h e,Q x t h e->Q' x t h e) (hk:nX T Γ N F o ops l ws Q t h e fs):nX T Γ N F o ops l ws Q' t h e fs:=xL hk fun _ _ hh=>uL hm hh
variable (k:Nat) (J:σ->(Nat->D)->(Nat->Option Row)->Nat->Prop) (P:σ->Prop)
theorem j4 {x y:Code} (hrest:∀s t h e,J s t h e->P s->cv T Γ N F (ws.drop k) Q .normal t h e) (hc:IK T Γ N F d g x y (ws.take k) (CK J P (cv T Γ N F (ws.drop k) Q)) t h e):IK T Γ N F d g x y ws Q t h e:=by
 unfold IK at hc ⊢
 have e1:∀c:Code,cv T Γ N F (.code c::ws) Q=cv T Γ N F (.code c::ws.take k) (cv T Γ N F (ws.drop k) Q):=fun c=>ox (.code c::ws) (k+1)
 rw[e1,e1]
 exact xJ hc (fun _ hh=>gN (rK hrest) _ _ _ _ _ hh) (fun _ hh=>gN (rK hrest) _ _ _ _ _ hh)
theorem bJ {want:Bool} {o:Oper} (hrest:∀s t h e,J s t h e->P s->cv T Γ N F (ws.drop k) Q .normal t h e) (hc:uZ T Γ N F d g want o ops l (ws.take k) (CK J P (cv T Γ N F (ws.drop k) Q)) t h e):uZ T Γ N F d g want o ops l ws Q t h e:=by
 unfold uZ at hc ⊢
 refine DA hc (fun t hh =>?_) (fun t hh =>?_) (fun t hh =>?_)
 ·cases want
  ·simp only[acX,if_false]at hh ⊢;rw[rz k];exact uK (rK hrest) hh
  ·simp only[if_true]at hh ⊢;rw[E5 k];exact JU (rK hrest) hh
 ·cases want
  ·simp only[acX,if_false]at hh ⊢;rw[E5 k];exact JU (rK hrest) hh
  ·simp only[if_true]at hh ⊢;rw[rz k];exact uK (rK hrest) hh
 ·rw[rz k];exact uK (rK hrest) hh
theorem WO {want:Bool} {o:Oper} (hrest:∀s t h e,J s t h e->P s->cv T Γ N F (ws.drop k) Q .normal t h e) (hc:u3 T Γ N F d g want o ops l (ws.take k) (CK J P (cv T Γ N F (ws.drop k) Q)) t h e fs):u3 T Γ N F d g want o ops l ws Q t h e fs:=by
 unfold u3 at hc ⊢
 refine DA hc (fun t hh =>?_) (fun t hh =>?_) (fun t hh =>?_)
 ·cases want
  ·simp only[acX,if_false]at hh ⊢;rw[rA k];exact uL (rK hrest) hh
  ·simp only[if_true]at hh ⊢;rw[Fe k];exact J0 (rK hrest) hh
 ·cases want
  ·simp only[acX,if_false]at hh ⊢;rw[Fe k];exact J0 (rK hrest) hh
  ·simp only[if_true]at hh ⊢;rw[rA k];exact uL (rK hrest) hh
 ·rw[rA k];exact uL (rK hrest) hh
end
noncomputable def ZW {α β γ:Type} (ty:Nat) (E:gY γ) (A:kT α) (F:List γ->α->Option (List γ×β)) (R:β->RK):Option (D×Row)->List D->Option (RK×Option Row):=fun lent ds =>
 match lent with
 | some (.buf 0 0 s o n,⟨0,ty',cells,false,true,false⟩)=>open Classical in
  if h:ty'=ty∧s=E.size∧∃p:List D×List γ×List D×α,cells=p.1++(ae E p.2.1++p.2.2.1)∧o=p.1.length∧n=p.2.1.length∧ds=A.ds p.2.2.2 then
   (F (Classical.choose h.2.2).2.1 (Classical.choose h.2.2).2.2.2).map fun r=>(R r.2,some ⟨0,ty,(Classical.choose h.2.2).1++(ae E r.1++(Classical.choose h.2.2).2.2.1),false,true,false⟩)
  else none
 | _=>none
theorem Sh {γ:Type} {E:gY γ} {p p' q q':List D} {l l':List γ} (h:p++(ae E l++q)=p'++(ae E l'++q')) (hp:p.length=p'.length) (hl:l.length=l'.length):p=p'∧l=l'∧q=q':=by
 obtain⟨h1,h2⟩:=aeg h hp
 obtain⟨h3,h4⟩:=aeg h2 (by rw[bH,bH,hl])
 exact⟨h1,sV E _ _ h3,h4⟩
theorem Zy {α β γ:Type} (ty:Nat) (E:gY γ) (A:kT α) (F:List γ->α->Option (List γ×β)) (R:β->RK) (pre post:List D) (l:List γ) (a:α) :
  ZW ty E A F R (some (.buf 0 0 E.size pre.length l.length,⟨0,ty,pre++(ae E l++post),false,true,false⟩)) (A.ds a)=(F l a).map fun r=>(R r.2,some ⟨0,ty,pre++(ae E r.1++post),false,true,false⟩):=by
 have h:ty=ty∧E.size=E.size∧∃p:List D×List γ×List D×α,pre++(ae E l++post)=p.1++(ae E p.2.1++p.2.2.1)∧pre.length=p.1.length∧l.length=p.2.1.length∧A.ds a=A.ds p.2.2.2:=⟨rfl,rfl,(pre,l,post,a),rfl,rfl,rfl,rfl⟩
 simp only[ZW]
 rw[dif_pos h]
 obtain⟨h1,h2,h3,h4⟩:=Classical.choose_spec h.2.2
 obtain⟨e1,e2,e3⟩:=Sh h1 h2 h3
 rw[<- A.inj _ _ h4,<- e1,<- e2,<- e3]
theorem VD {α β γ:Type} {ty:Nat} {E:gY γ} {A:kT α} {F:List γ->α->Option (List γ×β)} {R:β->RK} {lent:Option (D×Row)} {ds:List D} {rk:RK} {out:Option Row} (h:ZW ty E A F R lent ds=some (rk,out)) :
  ∃pre l post a l' r,lent=some (.buf 0 0 E.size pre.length l.length,⟨0,ty,pre++(ae E l++post),false,true,false⟩)∧ds=A.ds a∧F l a=some (l',r)∧rk=R r∧out=some ⟨0,ty,pre++(ae E l'++post),false,true,false⟩:=by
 unfold ZW at h
 split at h
 ·split at h
  ·rename_i he
   obtain⟨rfl,rfl,he⟩:=he
   rw[acj]at h
   obtain⟨⟨l',r⟩,h1,h2⟩:=h
   simp only[Prod.mk.injEq]at h2
   obtain⟨rfl,rfl⟩:=h2
   obtain⟨g1,g2,g3,g4⟩:=Classical.choose_spec he
   refine⟨_,_,_,_,l',r,?_,g4,h1,rfl,rfl⟩
   rw[<- g1,<- g2,<- g3]
  ·cases h
 ·cases h
theorem bY.aah {P:Program} {T:Nat->Option Ty} {Γ:Env} (hT:jn P T) (hΓ:bD P Γ) (hm:P.follows .mixedOrders=true) {α β γ:Type} {ty:Nat} {E:gY γ} {A:kT α} {F:List γ->α->Option (List γ×β)} {R:β->RK} {mode:Mode} {f:FuncId} {fn:Func} (hf:P.funcs[f]? = some fn) (hok:(match fn.body with|some c=>codeOk c|none=>true)=true)
  (hc:(fn.name == "runtime.NumGoroutine")=false∧fn.body.isNone=false) (hn:∀a,(A.ds a).length+1<=fn.ntmps)
  (h:∀pre post l a l' r,F l a=some (l',r)->a8 mode T Γ FU fn (some (.buf 0 0 E.size pre.length l.length,⟨0,ty,pre++(ae E l++post),false,true,false⟩)) (A.ds a)=some (R r,some ⟨0,ty,pre++(ae E l'++post),false,true,false⟩)):bY P f (ZW ty E A F R) where
 calls lent acg rk out hg:=by
  obtain⟨pre,l,post,a,l',r,rfl,rfl,hr,rfl,rfl⟩:=VD hg
  exact kR hT hΓ hm hf hok (hn a) rfl (h pre post l a l' r hr)
 callable:=⟨fn,hf,hc⟩
noncomputable def YI {α γ:Type} (ty:Nat) (E:gY γ) (A:kT α) (F:List γ->α->Option (List γ)):Option (D×Row)->List D->Option (RK×Option Row):=fun lent ds =>
 match lent with
 | some (.buf 0 0 s o n,⟨0,ty',cells,false,true,false⟩)=>open Classical in
  if h:ty'=ty∧s=E.size∧∃p:List D×List γ×List D×α,cells=p.1++(ae E p.2.1++p.2.2.1)∧o=p.1.length∧n=p.2.1.length∧ds=A.ds p.2.2.2 then
   (F (Classical.choose h.2.2).2.1 (Classical.choose h.2.2).2.2.2).map fun r=>(.fresh ty E.size r.length (ae E r),none)
  else none
 | _=>none
theorem VB {α γ:Type} (ty:Nat) (E:gY γ) (A:kT α) (F:List γ->α->Option (List γ)) (pre post:List D) (l:List γ) (a:α) :
  YI ty E A F (some (.buf 0 0 E.size pre.length l.length,⟨0,ty,pre++(ae E l++post),false,true,false⟩)) (A.ds a)=(F l a).map fun r=>(.fresh ty E.size r.length (ae E r),none):=by
 have h:ty=ty∧E.size=E.size∧∃p:List D×List γ×List D×α,pre++(ae E l++post)=p.1++(ae E p.2.1++p.2.2.1)∧pre.length=p.1.length∧l.length=p.2.1.length∧A.ds a=A.ds p.2.2.2:=⟨rfl,rfl,(pre,l,post,a),rfl,rfl,rfl,rfl⟩
 simp only[YI]
 rw[dif_pos h]
 obtain⟨h1,h2,h3,h4⟩:=Classical.choose_spec h.2.2
 obtain⟨e1,e2,e3⟩:=Sh h1 h2 h3
 rw[<- A.inj _ _ h4,<- e2]
theorem L6 {α γ:Type} {ty:Nat} {E:gY γ} {A:kT α} {F:List γ->α->Option (List γ)} {lent:Option (D×Row)} {ds:List D} {rk:RK} {out:Option Row} (h:YI ty E A F lent ds=some (rk,out)) :
  ∃pre l post a r,lent=some (.buf 0 0 E.size pre.length l.length,⟨0,ty,pre++(ae E l++post),false,true,false⟩)∧ds=A.ds a∧F l a=some r∧rk=.fresh ty E.size r.length (ae E r)∧out=none:=by
 unfold YI at h
 split at h
 ·split at h
  ·rename_i he
   obtain⟨rfl,rfl,he⟩:=he
   rw[acj]at h
   obtain⟨r,h1,h2⟩:=h
   simp only[Prod.mk.injEq]at h2
   obtain⟨rfl,rfl⟩:=h2
   obtain⟨g1,g2,g3,g4⟩:=Classical.choose_spec he
   refine⟨(Classical.choose he).1,(Classical.choose he).2.1,(Classical.choose he).2.2.1,(Classical.choose he).2.2.2,r,?_,g4,h1,rfl,rfl⟩
   rw[<- g1,<- g2,<- g3]
  ·cases h
 ·cases h
theorem bY.aag {P:Program} {T:Nat->Option Ty} {Γ:Env} (hT:jn P T) (hΓ:bD P Γ) (hm:P.follows .mixedOrders=true) {α γ:Type} {ty:Nat} {E:gY γ} {A:kT α} {F:List γ->α->Option (List γ)} {f:FuncId} {fn:Func} (hf:P.funcs[f]? = some fn) (hok:(match fn.body with|some c=>codeOk c|none=>true)=true)
  (hc:(fn.name == "runtime.NumGoroutine")=false∧fn.body.isNone=false) (hn:∀a,(A.ds a).length+1<=fn.ntmps)
  (h:∀pre post l a r,F l a=some r->a8 (.fresh ty E.size) T Γ FU fn (some (.buf 0 0 E.size pre.length l.length,⟨0,ty,pre++(ae E l++post),false,true,false⟩)) (A.ds a)=some (.fresh ty E.size r.length (ae E r),none)):bY P f (YI ty E A F) where
 calls lent acg rk out hg:=by
  obtain⟨pre,l,post,a,r,rfl,rfl,hr,rfl,rfl⟩:=L6 hg
  exact kR hT hΓ hm hf hok (hn a) rfl (h pre post l a r hr)
 callable:=⟨fn,hf,hc⟩
theorem bY.zero {P:Program} {f:FuncId} {fn:Func} (hf:P.funcs[f]? = some fn) (hc:(fn.name == "runtime.NumGoroutine")=false∧fn.body.isNone=false) {α β:Type} {A:kT α} {F:α->Option β} {R:β->RK} (h0:∀a,F a=none):bY P f (gf A F R) where
 calls lent acg rk out hg:=by
  obtain⟨rfl,rfl,a,r,rfl,hr,rfl⟩:=xd hg
  rw[h0]at hr
  cases hr
 callable:=⟨fn,hf,hc⟩
section
variable {h:Nat->Option Row} {Γ:Env} {g e x v d:Nat} {dst:Option Nat} {fr:List Nat} {acg rest:List D} {d0:D} {T:Nat->Option Ty} {rs:List ResultVar}
def Je (h:Nat->Option Row) (e:Nat) (dst:Option Nat) (x v:Nat) (fr:List Nat):Option (RK×Option Row)->Option bK
 | some (.clean c,some r1)=>some ⟨c,ie h fr++[(x,some { r1 with v:=v })]⟩
 | some (.same s o n,some r1)=>some ⟨.buf x v s o n,ie h fr++[(x,some { r1 with v:=v })]⟩
 | some (.fresh ty s n cells,none) =>
  match dst with
  | some d=>if fr.contains d=false then some ⟨.buf d e s 0 n,ie h fr++[(x,none),(d,some ⟨e,ty,cells,false,true,false⟩)]⟩ else none
  | none=>none
 | _=>none
def Uo (Γ:Env) (h:Nat->Option Row) (e:Nat) (dst:Option Nat) (g x v:Nat) (d0:D) (r:Row):Option (List D×List Nat)->Option bK
 | some (acg,fr)=>if fr.contains x=false then Je h e dst x v fr (Γ.sem g (some (d0,r)) acg) else none
 | none=>none
def Un (Γ:Env) (h:Nat->Option Row) (e:Nat) (dst:Option Nat) (g x v:Nat) (d0:D) (rest:List D):Option Row->Option bK
 | some r=>if r.fz=false then Uo Γ h e dst g x v d0 { r with v:=0 } (bk h rest) else none
 | none=>none
theorem Jf {s o n:Nat} : A2 true Γ h e dst g (.buf x v s o n::rest)=Un Γ h e dst g x v (.buf 0 0 s o n) rest (live h x v):=by
 simp only[A2,if_true,rN]
 cases live h x v with
 | none=>rfl
 | some r =>
  simp only[Un]
  cases bk h rest with
  | none=>rfl
  | some p=>rfl
theorem A5 {r:Row} : Un Γ h e dst g x v d0 rest (some r)=if r.fz=false then Uo Γ h e dst g x v d0 { r with v:=0 } (bk h rest) else none:=ae2
theorem A6 {r:Row} : Uo Γ h e dst g x v d0 r (some (acg,fr))=if fr.contains x=false then Je h e dst x v fr (Γ.sem g (some (d0,r)) acg) else none:=ae2
theorem yT {c:D} {v' ty:Nat} {cells:List D} {fz lst:Bool} : Je h e dst x v fr (some (.clean c,some ⟨v',ty,cells,fz,lst,false⟩))=some ⟨c,ie h fr++[(x,some ⟨v,ty,cells,fz,lst,false⟩)]⟩:=ae2
theorem A7 {s o n v' ty:Nat} {cells:List D} {fz lst:Bool} : Je h e dst x v fr (some (.same s o n,some ⟨v',ty,cells,fz,lst,false⟩))=some ⟨.buf x v s o n,ie h fr++[(x,some ⟨v,ty,cells,fz,lst,false⟩)]⟩:=ae2
theorem yU {s n ty:Nat} {cells:List D} : Je h e (some d) x v fr (some (.fresh ty s n cells,none))=if fr.contains d=false then some ⟨.buf d e s 0 n,ie h fr++[(x,none),(d,some ⟨e,ty,cells,false,true,false⟩)]⟩ else none:=ae2
theorem zm {ty sz i:Nat} {t:Nat->D} {l:D×Row} : jv (.fresh ty sz) T (some l) [.tmp i] ⟨t,h,e⟩=l4 ty sz h (t i):=ae2
def Z9 (y v s o:Nat):Option Row->Option Ty->Option (Nat×Nat)->Option bK
 | some _,some φ,some (l,k)=>if φ.size=s∧0<s then some ⟨.buf y v s (o+l*s) (k-l),[]⟩ else none
 | _,_,_=>none
theorem Fs {y v s o l k:Nat} {r:Row} {φ:Ty} : Z9 y v s o (some r) (some φ) (some (l,k))=if φ.size=s∧0<s then some ⟨.buf y v s (o+l*s) (k-l),[]⟩ else none:=ae2
theorem QY {el b c y v s o n:Nat} {z:List Value} {q:Bool} {lo hi:Option D} : cm T ⟨.slice el,b,c,z,q⟩ h (.buf y v s o n) lo hi none=Z9 y v s o (live h y v) (T el) (sD n lo hi):=by
 simp only[cm]
 cases live h y v with
 | none=>rfl
 | some r =>
  simp only
  cases T el with
  | none=>rfl
  | some φ =>
   cases sD n lo hi with
   | none=>rfl
   | some p=>rfl
def Zk (ty:Nat):Option (List D×List Nat)->Option Row->Option (RK×Option Row)
 | some (ds,fr),some r=>if r.v=0∧r.fz=false∧r.ty=ty∧r.mp=false∧fr.contains 0=false then some (.clean (me ds),some r) else none
 | _,_=>none
theorem Fo {ty:Nat} {ds:List D} {r:Row} : Zk ty (some (ds,fr)) (some r)=if r.v=0∧r.fz=false∧r.ty=ty∧r.mp=false∧fr.contains 0=false then some (.clean (me ds),some r) else none:=ae2
theorem Fp {t:Nat->D} {ty v:Nat} {cells:List D} {fz lst:Bool} : jv .clean T (some (d0,⟨v,ty,cells,fz,lst,false⟩)) rs ⟨t,h,e⟩=Zk ty (tv T ⟨t,h,e⟩ rs) (h 0):=by
 simp only[jv,sW,lu,XM,Zk]
 cases tv T ⟨t,h,e⟩ rs with
 | none=>rfl
 | some p =>
  obtain⟨ds,fr⟩:=p
  cases h 0 with
  | none=>rfl
  | some r =>
   simp only
   by_cases h1:r.v=0∧r.fz=false∧r.ty=ty∧r.mp=false
   ·rw[if_pos h1]
    simp only[acZ]
    by_cases h2:fr.contains 0=false
    ·rw[if_pos h2,if_pos ⟨h1.1,h1.2.1,h1.2.2.1,h1.2.2.2,h2⟩]
    ·rw[if_neg h2,if_neg (fun hh=>h2 hh.2.2.2.2)]
   ·rw[if_neg h1,if_neg (fun hh=>h1 ⟨hh.1,hh.2.1,hh.2.2.1,hh.2.2.2.1⟩)]
def Xq (ty:Nat):D->Option Row->Option (RK×Option Row)
 | .buf 0 0 s o n,some r=>if r.v=0∧r.fz=false∧r.ty=ty∧r.mp=false then some (.same s o n,some r) else none
 | _,_=>none
theorem Kl {ty s o n:Nat} {r:Row} : Xq ty (.buf 0 0 s o n) (some r)=if r.v=0∧r.fz=false∧r.ty=ty∧r.mp=false then some (.same s o n,some r) else none:=ae2
theorem Fq {t:Nat->D} {ty v i:Nat} {cells:List D} {fz lst:Bool} : jv .same T (some (d0,⟨v,ty,cells,fz,lst,false⟩)) [.tmp i] ⟨t,h,e⟩=Xq ty (t i) (h 0):=by
 simp only[jv,As,lu]
 generalize t i=q
 cases q with
 | buf a b s o n =>
  cases h 0 with
  | none=>rcases a with _|a<;>rcases b with _|b<;>rfl
  | some r =>
   simp only
   by_cases h1:r.v=0∧r.fz=false∧r.ty=ty∧r.mp=false
   ·rcases a with _|a<;>rcases b with _|b<;>simp[Xq,h1]
   ·rcases a with _|a<;>rcases b with _|b<;>simp[Xq,h1]
 | _=>rfl
end
section
variable {α:Type} (E:gY α) {l m u x:List α} {y y':α} {i a b:Int} {pre post:List D}
theorem X5 (h:Al l a b=some x):ae E (l.take a.toNat)++(ae E x++ae E (l.drop b.toNat))=ae E l:=by
 unfold Al at h
 split at h
 ·rename_i hc
  cases h
  rw[<- fh,<- fh]
  congr 1
  have e:l.drop b.toNat=(l.drop a.toNat).drop (b.toNat-a.toNat):=by rw[ad8];congr 1;omega
  rw[e,ad9,ad9]
 ·cases h
theorem X6 (h:Al l a b=some x):(ae E (l.take a.toNat)).length=a.toNat*E.size:=by
 unfold Al at h
 split at h
 ·rw[bH,acG,adt (by omega)]
 ·cases h
theorem YY (h:Al l a b=some x):x.length=b.toNat-a.toNat:=by
 unfold Al at h
 split at h
 ·cases h
  simp
  omega
 ·cases h
theorem X4:ae E (l.take i.toNat)++(ae E u++ae E (l.drop b.toNat))=ae E (l.take i.toNat++(u++l.drop b.toNat)):=by rw[fh,fh]
theorem Vj (h:P.idx l i=some y):(pre++(ae E l++post)).drop (pre.length+i.toNat*E.size)=E.cells y++(ae E (l.drop (i.toNat+1))++post):=by
 rw[<- ad8,List.drop_left,adD (by rw[bH];have:=jx E h;omega),w7 E h,adC]
theorem Vk (h:P.idx l i=some y):pre.length+i.toNat*E.size+E.size<=(pre++(ae E l++post)).length:=by
 have:=jx E h
 rw[adq,adq,bH]
 omega
theorem K4 (h:P.idx l i=some y):(0<=i∧i<l.length)∧(pre++(ae E l++post)).drop (pre.length+i.toNat*E.size)=E.cells y++(ae E (l.drop (i.toNat+1))++post)∧pre.length+i.toNat*E.size+E.size<=(pre++(ae E l++post)).length:=⟨od h,Vj E h,Vk E h⟩
theorem MJ (h:P.idx l i=some y):putCells (pre++(ae E l++post)) (pre.length+i.toNat*E.size) (E.cells y')=pre++(ae E (l.set i.toNat y')++post):=by
 have h1:=VW E (x':=y') h
 have hf:=jx E h
 have hl:=bH E l
 unfold putCells at h1 ⊢
 rw[<- h1,E.len]
 have e1:(pre++(ae E l++post)).take (pre.length+i.toNat*E.size)=pre++(ae E l).take (i.toNat*E.size):=by
  rw[adF,adH (by omega),adE,adG (by omega)]
 have e2:(pre++(ae E l++post)).drop (pre.length+i.toNat*E.size+E.size)=(ae E l).drop (i.toNat*E.size+E.size)++post:=by
  rw[acI,ad5,ad6 (by omega),adE,ad3,adD (by omega)]
 rw[e1,e2]
 simp only[adC]
theorem WU (h:Al l a b=some x) (hu:u.length=x.length):(l.take a.toNat++(u++l.drop b.toNat)).length=l.length:=by
 have hn:=YY h
 unfold Al at h
 split at h
 ·simp only[adq,acG,acH]
  omega
 ·cases h
theorem XV (h:Al l 0 b=some x):pre.length+x.length*E.size<=(pre++(ae E l++post)).length∧((pre++(ae E l++post)).drop pre.length).take (x.length*E.size)=ae E x:=by
 obtain⟨h1,h2,h3,h4,h5⟩:=IE E h
 have:=ac9 E.size h3
 refine⟨by rw[adq,adq,bH];omega,?_⟩
 rw[List.drop_left,adG (by rw[bH];exact this),h5]
end
section
variable {h:Nat->Option Row} {Γ:Env} {e:Nat} {dst:Option Nat}
def caP:Option (D×List Nat)->Option (List D×List Nat)->Option (List D×List Nat)
 | some (d,fr),some (ds,fr')=>some (d::ds,fr++fr')
 | _,_=>none
theorem Jd {d:D} {ds:List D} {fr fr':List Nat} : caP (some (d,fr)) (some (ds,fr'))=some (d::ds,fr++fr'):=ae2
theorem Js:cA h []=some ([],[]):=ae2
theorem EP {d:D} {ds:List D} : cA h (d::ds)=caP (aM h d) (cA h ds):=by
 simp only[cA]
 cases aM h d with
 | none=>rfl
 | some x=>cases cA h ds<;>rfl
theorem Qx {k:IntKind} {n:Int} : aM h (.int k n)=some (.int k n,[]):=ae2
theorem Jr {b:Bool} : aM h (.bool b)=some (.bool b,[]):=ae2
theorem QA {b:ByteArray} : aM h (.str b)=some (.str b,[]):=ae2
theorem Ux {a b:Bool} {n:Nat} {xs:List D} : aM h (.sl a b n xs)=some (.sl false false n xs,[]):=ae2
theorem Qw {xs:List D} : aM h (.agg xs)=some (.agg (xs.map canon),[]):=ae2
theorem Ut {f:Nat} : aM h (.fn f)=some (.fn f,[]):=ae2
def clC (f k:Nat):Option (List D×List Nat)->Option (D×List Nat)
 | some (ys,fr)=>some (.clo f k ys,fr)
 | none=>none
theorem JC {f k:Nat} {ys:List D} {fr:List Nat} : clC f k (some (ys,fr))=some (.clo f k ys,fr):=ae2
theorem Jw {f k:Nat} {xs:List D} : bo h (.clo f k xs)=clC f k (cA h xs):=by
 simp only[bo]
 cases cA h xs<;>rfl
theorem Jo {g k:Nat} {caps args:List D} : gA Γ h e dst (.clo g k caps) args=if caps.all iO then A2 false Γ h e dst g (caps.take k++(args++caps.drop k)) else none:=by
 simp only[gA,A2,acX,if_false]
theorem Ry {k:IntKind} {n:Int} : iO (.int k n)=true:=ae2
theorem MC {b:Bool} : iO (.bool b)=true:=ae2
theorem RB {b:ByteArray} : iO (.str b)=true:=ae2
theorem VN {a b:Bool} {n:Nat} {xs:List D} : iO (.sl a b n xs)=true:=ae2
theorem Rx {xs:List D} : iO (.agg xs)=true:=ae2
theorem VJ {f:Nat} : iO (.fn f)=true:=ae2
end
theorem C1:me []=.tup []:=ae2
def Z0 (f:Nat):Arg Unit:=⟨fun _ =>.fn f,fun _ _ _=>rfl⟩
theorem vm7:type_of% (ai @Jd<|ai @Js<|ai @EP<|ai @Qx<|ai @Jr<|ai @QA<|ai @Ux<|ai @Qw<|ai @Ut<|ai @JC<|ai @Jw<|ai @Jo<|ai @Ry<|ai @MC<|ai @RB<|ai @VN<|ai @Rx<|ai @VJ<|ai @C1<|ai @wM<|ai @wP<|@Ao):=⟨@Jd,@Js,@EP,@Qx,@Jr,@QA,@Ux,@Qw,@Ut,@JC,@Jw,@Jo,@Ry,@MC,@RB,@VN,@Rx,@VJ,@C1,@wM,@wP,@Ao⟩
theorem vm6:type_of% (ai @MR<|ai @ado<|ai @QY<|ai @Fs<|ai @yU<|ai @zm<|ai @Jf<|ai @A5<|ai @A6<|ai @yT<|ai @A7<|ai @Fo<|ai @Fp<|ai @Kl<|@Fq):=⟨@MR,@ado,@QY,@Fs,@yU,@zm,@Jf,@A5,@A6,@yT,@A7,@Fo,@Fp,@Kl,@Fq⟩
section
variable {T:Nat->Option Ty} {h:Nat->Option Row} {τ:Ty} {q:Nat->Bool}
theorem Vs {x v o:Nat} : mG τ h (.ptr x v o)=mX τ h x v o (live h x v):=ae2
theorem Yq {xs:List D} : mG τ h (.ip xs)=cY τ h (.ip xs):=ae2
theorem Yo {x v o v' ty:Nat} {c:List D} {fz:Bool} : mX τ h x v o (some ⟨v',ty,c,fz,true,false⟩)=cY τ h (.ptr x v o):=by
 simp only[mX,adJ,Bool.and_false,acX,if_false]
theorem Yp {x v o v' ty:Nat} {c:List D} {lst:Bool} : mX τ h x v o (some ⟨v',ty,c,false,lst,false⟩)=cY τ h (.ptr x v o):=by
 simp only[mX,aek,acX,if_false]
def ldA:Option D->Option bK->Option bK
 | some d,_=>some ⟨d,[]⟩
 | none,E=>E
theorem Li {d:D} {E:Option bK} : ldA (some d) E=some ⟨d,[]⟩:=ae2
theorem Lh {E:Option bK} : ldA none E=E:=ae2
theorem Yn {x v o v' ty:Nat} {c:List D} : mX τ h x v o (some ⟨v',ty,c,true,false,false⟩)=if o+τ.size<=c.length then ldA (NU τ.ds.oe ((c.drop o).take τ.size)) (cY τ h (.ptr x v o)) else none:=by
 simp only[mX,ael,Bool.and_self,if_true]
 cases NU τ.ds.oe ((c.drop o).take τ.size)<;>rfl
theorem T9 {x v s o n:Nat} : NU true [.ali x v s o n]=some (.box1 x v s o n):=ae2
theorem T8 {x v s o n:Nat} : NU false [.ali x v s o n]=some (.buf x v s o n):=ae2
theorem R5 {p:D} {k:IntKind} {n:Int} : cG τ h p (.int k n)=cu τ h p (.int k n):=ae2
theorem Np {p:D} {b:Bool} : cG τ h p (.bool b)=cu τ h p (.bool b):=ae2
theorem R7 {p:D} {b:ByteArray} : cG τ h p (.str b)=cu τ h p (.str b):=ae2
theorem Wi {p:D} {a b:Bool} {n:Nat} {xs:List D} : cG τ h p (.sl a b n xs)=cu τ h p (.sl a b n xs):=ae2
theorem R6 {p:D} {x v o:Nat} : cG τ h p (.ptr x v o)=cu τ h p (.ptr x v o):=ae2
theorem Wf {p:D} {xs:List D} : cG τ h p (.ip xs)=cu τ h p (.ip xs):=ae2
theorem R3 {p:D} {x v s o n:Nat} : cG τ h p (.buf x v s o n)=cu τ h p (.buf x v s o n):=ae2
theorem R1 {p:D} {xs:List D} : cG τ h p (.agg xs)=cu τ h p (.agg xs):=ae2
theorem We {p:D} {f:Nat} : cG τ h p (.fn f)=cu τ h p (.fn f):=ae2
theorem R4 {p:D} {f k:Nat} {xs:List D} : cG τ h p (.clo f k xs)=cu τ h p (.clo f k xs):=ae2
theorem R8 {p:D}  : cG τ h p (.und)=cu τ h p (.und):=ae2
def aaD (τ:Ty) (x o y vy s oy n:Nat):Option Row->Option bK
 | some r=>if τ.size=1∧o=0∧r.cells.length=1∧r.fz=false∧r.lst=false then some ⟨.und,[(x,some ⟨r.v,r.ty,[.ali y vy s oy n],true,false,false⟩)]⟩ else none
 | none=>none
theorem He {x o y vy s oy n:Nat} {r:Row} : aaD τ x o y vy s oy n (some r)=if τ.size=1∧o=0∧r.cells.length=1∧r.fz=false∧r.lst=false then some ⟨.und,[(x,some ⟨r.v,r.ty,[.ali y vy s oy n],true,false,false⟩)]⟩ else none:=ae2
theorem R2 {x v o y vy s oy n:Nat} : cG τ h (.ptr x v o) (.box1 y vy s oy n)=aaD τ x o y vy s oy n (live h x v):=by
 simp only[cG]
 cases live h x v<;>rfl
def I9 (b:Bool) (T:Nat->Option Ty) (τ:Ty) (h:Nat->Option Row) (ps:List (Nat×D)):Option bK :=
 if b then eg T τ h ps else
  match τ.ds,ps with
  | .struct fs,[(0,.buf x v s o n)]=>if (alive h (.buf x v s o n))∧(fs.all fun f=>(T f.1).isSome)∧fieldAt T fs 0=some (0,1)∧τ.zero.length=1 then some ⟨.box1 x v s o n,[]⟩ else none
  | .struct fs,[(0,.box1 x v s o n)]=>if (alive h (.buf x v s o n))∧(fs.all fun f=>(T f.1).isSome)∧fieldAt T fs 0=some (0,1)∧τ.zero.length=1 then some ⟨.box1 x v s o n,[]⟩ else none
  | _,_=>cE (eg T τ h ps)
theorem Qs {d:Nat} {ps:List (Nat×D)} : nY q T τ h (some d) ps=I9 (q d) T τ h ps:=ae2
theorem Et:I9 false T τ h []=cE (eg T τ h []):=by
 unfold I9
 rw[if_neg (by simp)]
 cases τ.ds<;>rfl
theorem Uj {cs:List D} {hw:List (Nat×Option Row)} : cE (some ⟨.agg cs,hw⟩)=some ⟨.agg (cs.map canon),hw⟩:=ae2
theorem Eu {ps:List (Nat×D)} : I9 true T τ h ps=eg T τ h ps:=ae2
def Ug (T:Nat->Option Ty) (h:Nat->Option Row) (nz x v s o n:Nat):Ds->Option bK
 | .struct fs=>if (alive h (.buf x v s o n))∧(fs.all fun f=>(T f.1).isSome)∧fieldAt T fs 0=some (0,1)∧nz=1 then some ⟨.box1 x v s o n,[]⟩ else none
 | _=>none
theorem Uh {nz x v s o n:Nat} {fs:List (Nat×Nat)} : Ug T h nz x v s o n (.struct fs)=if (alive h (.buf x v s o n))∧(fs.all fun f=>(T f.1).isSome)∧fieldAt T fs 0=some (0,1)∧nz=1 then some ⟨.box1 x v s o n,[]⟩ else none:=ae2
theorem Ja {x v s o n:Nat} : I9 false T τ h [(0,.box1 x v s o n)]=Ug T h τ.zero.length x v s o n τ.ds:=by
 unfold I9 Ug eg
 rw[if_neg (by simp)]
 cases τ.ds<;>rfl
theorem AY {x v s o n:Nat} : I9 false T τ h [(0,.buf x v s o n)]=Ug T h τ.zero.length x v s o n τ.ds:=by
 unfold I9 Ug eg
 rw[if_neg (by simp)]
 cases τ.ds<;>rfl
def clX:Option (D×List Nat)->Option (D×List Nat)
 | some (d,fr)=>some (.agg [d],fr)
 | none=>none
theorem JJ {d:D} {fr:List Nat} : clX (some (d,fr))=some (.agg [d],fr):=ae2
theorem Ju {x v s o n:Nat} : bo h (.box1 x v s o n)=clX (Xg x s o n (live h x v)):=by
 simp only[bo,aM,cM]
 cases live h x v with
 | none=>rfl
 | some r=>by_cases hc:o+n*s<=r.cells.length<;>simp[Xg,clX,hc,canon]
theorem VH {x v s o n:Nat} : nm (.box1 x v s o n)=[x]:=ae2
theorem Ei {x v s o n:Nat} : alive h (.buf x v s o n)=(mK h x v).isSome:=ae2
theorem Fx {fs:List (Nat×Nat)} {ft off:Nat} : fieldAt T ((ft,off)::fs) 0=(T ft).map fun φ=>(off,φ.size):=by
 simp only[fieldAt,List.getElem?_cons_zero]
 cases T ft<;>rfl
end
theorem vm8:type_of% (ai @Vs<|ai @Yq<|ai @Yo<|ai @Yp<|ai @Li<|ai @Lh<|ai @Yn<|ai @T9<|ai @T8<|ai @R5<|ai @Np<|ai @R7<|ai @Wi<|ai @R6<|ai @Wf<|ai @R3<|ai @R1<|ai @We<|ai @R4<|ai @R8<|ai @R2<|ai @He<|ai @Qs<|ai @Eu<|ai @Uh<|ai @AY<|ai @Et<|ai @Ja<|ai @Uj<|ai @JJ<|ai @Ju<|ai @VH<|ai @Ei<|@Fx):=⟨@Vs,@Yq,@Yo,@Yp,@Li,@Lh,@Yn,@T9,@T8,@R5,@Np,@R7,@Wi,@R6,@Wf,@R3,@R1,@We,@R4,@R8,@R2,@He,@Qs,@Eu,@Uh,@AY,@Et,@Ja,@Uj,@JJ,@Ju,@VH,@Ei,@Fx⟩
theorem aa3:type_of% (ai @TN<|ai @X7<|ai @GU<|ai @RO<|ai @V6<|ai @V5<|ai @Mc<|ai @Mb<|ai @YP<|ai @FH<|ai @FG<|ai @Ks<|ai @Gc<|ai @Cv<|ai @Me<|ai @Rv<|ai @RE<|ai @RN<|ai @Lu<|ai @Vw<|ai @Rj<|ai @FO<|ai @Rh<|ai @Lj<|ai @FP<|ai @Lk<|ai @Ri<|ai @RW<|ai @G5<|ai @G6<|ai @GW<|ai @G8<|ai @G4<|ai @Nk<|ai @G7<|ai @Nl<|ai @RV<|ai @Nj<|ai @Hc<|@jr):=⟨@TN,@X7,@GU,@RO,@V6,@V5,@Mc,@Mb,@YP,@FH,@FG,@Ks,@Gc,@Cv,@Me,@Rv,@RE,@RN,@Lu,@Vw,@Rj,@FO,@Rh,@Lj,@FP,@Lk,@Ri,@RW,@G5,@G6,@GW,@G8,@G4,@Nk,@G7,@Nl,@RV,@Nj,@Hc,@jr⟩
theorem aa4:type_of% (ai @Q1<|ai @Le<|ai @KY<|ai @K8<|ai @KS<|ai @F8<|ai @Mq<|ai @Cz<|ai @Ms<|ai @Mr<|ai @Gg<|ai @Mp<|ai @Mo<|ai @G0<|ai @Ha<|ai @GZ<|ai @G9<|ai @RR<|ai @RX<|ai @G1<|ai @Hb<|ai @Nd<|ai @Nm<|ai @F0<|ai @F1<|ai @Nh<|ai @G2<|ai @Ni<|ai @G3<|ai @RU<|ai @Ng<|ai @En<|ai @Em<|@mK.eq_1):=⟨@Q1,@Le,@KY,@K8,@KS,@F8,@Mq,@Cz,@Ms,@Mr,@Gg,@Mp,@Mo,@G0,@Ha,@GZ,@G9,@RR,@RX,@G1,@Hb,@Nd,@Nm,@F0,@F1,@Nh,@G2,@Ni,@G3,@RU,@Ng,@En,@Em,@mK.eq_1⟩
theorem aa5:type_of% (ai @U6<|ai @Rf<|ai @Rb<|ai @Rd<|ai @Q8<|ai @Rw<|ai @F7<|ai @Ga<|ai @Ly<|ai @LD<|ai @Cn<|ai @LG<|ai @LC<|ai @FW<|ai @Lx<|ai @Lw<|ai @LA<|ai @Mm<|ai @Mj<|ai @Cy<|ai @Mn<|ai @Ml<|ai @Gf<|ai @Mi<|ai @Mh<|ai @Mk<|ai @EI<|ai @y4<|ai @yZ<|ai @y3<|ai @JM<|ai @JN<|ai @UY<|ai @QQ<|ai @UX<|ai @QP<|ai @J7<|ai @J8<|ai @J9<|ai @Jj<|ai @EG<|ai @Nb<|ai @GX<|ai @Nc<|ai @GY<|ai @wY<|ai @dF<|ai @wX<|ai @dE<|ai @QW<|ai @Kk<|ai @QT<|ai @Fm<|@Ki):=⟨@U6,@Rf,@Rb,@Rd,@Q8,@Rw,@F7,@Ga,@Ly,@LD,@Cn,@LG,@LC,@FW,@Lx,@Lw,@LA,@Mm,@Mj,@Cy,@Mn,@Ml,@Gf,@Mi,@Mh,@Mk,@EI,@y4,@yZ,@y3,@JM,@JN,@UY,@QQ,@UX,@QP,@J7,@J8,@J9,@Jj,@EG,@Nb,@GX,@Nc,@GY,@wY,@dF,@wX,@dE,@QW,@Kk,@QT,@Fm,@Ki⟩
theorem v:type_of% (ai @vmc<|ai @vmk<|ai @vm1<|ai @vm2<|ai @vm3<|ai @vm4<|ai @vm5<|ai @vm6<|ai @vm7<|ai @vm8<|ai @aa1<|ai @aa3<|ai @aa4<|ai @aa5<|ai @vmu<|ai @Option.toList_some.{0}<|@Option.toList_none.{0}):=⟨@vmc,@vmk,@vm1,@vm2,@vm3,@vm4,@vm5,@vm6,@vm7,@vm8,@aa1,@aa3,@aa4,@aa5,@vmu,@Option.toList_some.{0},@Option.toList_none.{0}⟩
def Cq {α:Type} : List (Int×α)->List Int
 | []=>[]
 | (k,_)::m=>k::Cq m
def Ti {α:Type} (A:Arg α):List (Int×α)->List D
 | []=>[]
 | (_,v)::m=>A.d v::Ti A m
section
variable {α:Type} {A:Arg α}
theorem L0:Cq ([]:List (Int×α))=[]:=ae2
theorem L4:Ti A []=[]:=ae2
theorem LZ (n:Int):∀m:List (Int×α),(Cq m).contains n=Xu m n
 | []=>rfl
 | (k,v)::m=>by
  have:=LZ n m
  simp only[Cq,ado,Xu,this]
  congr 1
  exact Bool.beq_comm
theorem map_inj:∀ {m m':List (Int×α)},Cq m=Cq m'->Ti A m=Ti A m'->m=m'
 | [],[],_,_=>rfl
 | [],(k,v)::m',h,_=>by simp[Cq]at h
 | (k,v)::m,[],h,_=>by simp[Cq]at h
 | (k,v)::m,(k',v')::m',h,g=>by
  simp only[Cq,acL]at h
  simp only[Ti,acL]at g
  rw[h.1,A.inj _ _ g.1,map_inj h.2 g.2]
end
def eMp {α:Type} (A:Arg α):gY (List (Int×α)):=⟨fun m=>[.mpc (Cq m) (Ti A m)],1,fun _=>rfl,by decide,fun x y h=>by
 simp only[acL,D.mpc.injEq,and_true]at h
 exact map_inj h.1 h.2⟩
theorem Ka {α:Type} (A:Arg α):(eMp A).size=1:=ae2
def aIp {α:Type} (e:gY α):Arg α:=⟨fun x =>.ip (e.cells x),fun x y h=>e.inj _ _ (by simpa using h)⟩
theorem Yg {α:Type} (e:gY α) (x:α):(aIp e).d x=.ip (e.cells x):=ae2
section
variable {T:Nat->Option Ty} {h:Nat->Option Row} {Γ:Env} {e:Nat} {dst:Option Nat}
def lvM (v:Nat):Option Row->Option (List Int×List D)
 | some r=>if r.v=v∧r.mp=true then (match r.cells with | [.mpc ks vs]=>some (ks,vs)|_=>none) else none
 | none=>none
theorem Lt {x v:Nat} : gR h x v=lvM v (h x):=by
 unfold gR lvM
 cases h x<;>rfl
theorem LI {v ty:Nat} {ks:List Int} {vs:List D} {fz lst:Bool} : lvM v (some ⟨v,ty,[.mpc ks vs],fz,lst,true⟩)=some (ks,vs):=by simp[lvM]
def lkK (ks:List Int) (n:Int):Bool:=ks.contains n
theorem Rl {α:Type} {m:List (Int×α)} {n:Int} : lkK (Cq m) n=Xu m n:=LZ n m
def lkE (ok:Bool) (z:D) (n:Int):Option (List Int×List D)->Option bK
 | some (ks,vs)=>some ⟨if ok then .tup [rQ z ks vs n,.bool (lkK ks n)] else rQ z ks vs n,[]⟩
 | none=>none
theorem YG {z:D} {n:Int} {ks:List Int} {vs:List D} : lkE true z n (some (ks,vs))=some ⟨.tup [rQ z ks vs n,.bool (lkK ks n)],[]⟩:=ae2
theorem YF {z:D} {n:Int} {ks:List Int} {vs:List D} : lkE false z n (some (ks,vs))=some ⟨rQ z ks vs n,[]⟩:=ae2
theorem L2 {x v:Nat} : mapOf h (.mp x v)=gR h x v:=ae2
theorem FY {ks:List Int} {vs:List D} : mapOf h (.mpc ks vs)=some (ks,vs):=ae2
def muR (h:Nat->Option Row) (y:Nat) (n:Int) (d:D) (fr:List Nat) (ks:List Int) (vs:List D):Option Row->Option bK
 | some r=>if r.fz=false∧fr.contains y=false then some ⟨.und,ie h fr++[(y,some ⟨r.v,r.ty,[.mpc (Ai ks n) (Iv ks vs n d)],false,true,true⟩)]⟩ else none
 | none=>none
theorem Ma {y v ty:Nat} {n:Int} {d:D} {fr:List Nat} {ks:List Int} {vs:List D} {cells:List D} {lst mp:Bool} : muR h y n d fr ks vs (some ⟨v,ty,cells,false,lst,mp⟩)=if fr.contains y=false then some ⟨.und,ie h fr++[(y,some ⟨v,ty,[.mpc (Ai ks n) (Iv ks vs n d)],false,true,true⟩)]⟩ else none:=by
 simp only[muR,true_and]
def muM (h:Nat->Option Row) (y:Nat) (n:Int) (d:D) (fr:List Nat):Option (List Int×List D)->Option bK
 | some (ks,vs)=>muR h y n d fr ks vs (h y)
 | none=>none
theorem L9 {y:Nat} {n:Int} {d:D} {fr:List Nat} {ks:List Int} {vs:List D} : muM h y n d fr (some (ks,vs))=muR h y n d fr ks vs (h y):=ae2
def muE (h:Nat->Option Row) (y v:Nat) (n:Int):Option (D×List Nat)->Option bK
 | some (d,fr)=>muM h y n d fr (gR h y v)
 | none=>none
theorem L8 {y v:Nat} {n:Int} {d:D} {fr:List Nat} : muE h y v n (some (d,fr))=muM h y n d fr (gR h y v):=ae2
theorem Nw {k:IntKind} {n:Int} : wh h (.int k n)=some (.int k n,[]):=ae2
theorem Hk {b:Bool} : wh h (.bool b)=some (.bool b,[]):=ae2
theorem Nv {xs:List D} : wh h (.agg xs)=some (.agg (xs.map canon),[]):=ae2
def ldP (τ:Ty) (h:Nat->Option Row) (x v y:Nat):Option Row->Option bK
 | some r=>match r.cells with
  | [.alm y' v']=>if r.fz=true∧r.lst=false∧τ.size=1∧τ.ds.oe=false then some ⟨.mp y' v',[]⟩ else none
  | _=>none
 | none=>n5 τ h x v y (kI h x v)
theorem Yr {τ:Ty} {x v y:Nat} : mG τ h (.pm x v y)=ldP τ h x v y (live h x v):=by
 simp only[mG]
 cases live h x v with
 | none=>rfl
 | some r =>
  obtain⟨v',ty,cells,fz,lst,mp⟩:=r
  rcases cells with _|⟨c,_|⟨c',cs⟩⟩<;>rfl
theorem Ll {τ:Ty} {x v y:Nat} : ldP τ h x v y none=n5 τ h x v y (kI h x v):=ae2
def ldQ (τ:Ty) (h:Nat->Option Row) (x y s n:Nat):Option Row->Option bK
 | some r=>if y=1000000+x∧r.mp=false∧r.lst=true∧r.cells.length=n*s∧τ.size=1 then some ⟨if τ.ds.oe then .agg [.sl false false n r.cells] else .sl false false n r.cells,ie h [y]⟩ else none
 | none=>none
theorem Vr {τ:Ty} {r:Row} {x v y s n:Nat} : n5 τ h x v y (some (r,y,s,n))=ldQ τ h x y s n (h y):=by
 simp only[n5,ldQ,PK]
 cases h y with
 | none=>rfl
 | some q=>simp
theorem Lo {ty b:Nat} {ds:Ds} {z:List Value} {q:Bool} {x y s n e':Nat} {cells:List D} {fz:Bool} : ldQ ⟨ds,1,b,z,q⟩ h x y s n (some ⟨e',ty,cells,fz,true,false⟩)=if y=1000000+x∧cells.length=n*s then some ⟨if ds.oe then .agg [.sl false false n cells] else .sl false false n cells,ie h [y]⟩ else none:=by
 simp[ldQ]
def Zn (T:Nat->Option Ty) (x v k:Nat):Option (Row×Nat×Nat×Nat)->Option (Nat×Nat)->Option bK
 | some _,some (ft,0)=>match T ft with|some φ=>if φ.size=0 then none else some ⟨.pm x v k,[]⟩|none=>none
 | _,_=>none
theorem FF {T:Nat->Option Ty} {x v k ft:Nat} {r:Row×Nat×Nat×Nat} : Zn T x v k (some r) (some (ft,0))=match T ft with|some φ=>if φ.size=0 then none else some ⟨.pm x v k,[]⟩|none=>none:=ae2
theorem U9 {T:Nat->Option Ty} {b c:Nat} {z:List Value} {q:Bool} {fs:List (Nat×Nat)} {x v k i:Nat} : dk T ⟨.struct fs,b,c,z,q⟩ h i (.pm x v k)=Zn T x v k (kI h x v) fs[i]?:=by
 simp only[dk,Zn]
 cases kI h x v with
 | none=>rfl
 | some r=>simp only;generalize fs[i]? = z;rcases z with _|⟨ft,_|off⟩<;>first|rfl|(simp;done)|(simp only;cases T ft<;>rfl)
def R0 (x y s oy n k : Nat) : Option Row -> Option Row -> Option bK
  | some r, some q => if oy = 0 ∧ r.cells.length = 1 ∧ r.fz = false ∧ r.lst = false ∧ q.fz = false ∧ q.lst = true ∧ q.cells.length = n * s ∧ x ≠ y ∧ k = 1000000 + x ∧ x < 1000000 then
          some ⟨.und, [(y, none), (k, some ⟨0, q.ty, q.cells, false, true, false⟩), (x, some ⟨r.v, r.ty, [.ph k s n], false, false, true⟩)]⟩ else none
  | _, _ => none
theorem Wh {ds:Ds} {b:Nat} {z:List Value} {q:Bool} {x v y vy s oy n k:Nat} : cG ⟨ds,1,b,z,q⟩ h (.pm x v k) (.box1 y vy s oy n)=R0 x y s oy n k (live h x v) (live h y vy):=by
 simp only[cG,R0,PK,true_and]
 cases live h x v with
 | none=>rfl
 | some r=>cases live h y vy<;>rfl
theorem Dk {x y s oy n k v ty e' ty':Nat} {c:D} {cells:List D} : R0 x y s oy n k (some ⟨v,ty,[c],false,false,false⟩) (some ⟨e',ty',cells,false,true,false⟩)=if oy=0∧cells.length=n*s∧¬x=y∧k=1000000+x∧x<1000000 then
  some ⟨.und,[(y,none),(k,some ⟨0,ty',cells,false,true,false⟩),(x,some ⟨v,ty,[.ph k s n],false,false,true⟩)]⟩ else none:=by
 simp[R0]
theorem Lm {v ty y' v':Nat} {b k el:Nat} {z:List Value} {q mp:Bool} {x0 v0 y0:Nat} : ldP ⟨.map k el,1,b,z,q⟩ h x0 v0 y0 (some ⟨v,ty,[.alm y' v'],true,false,mp⟩)=some ⟨.mp y' v',[]⟩:=by
 simp[ldP,Ds.oe]
def X1 (τ:Ty) (x y y' v':Nat) (m:Bool):Option Row->Option bK
 | some r=>if τ.size=1∧y'=y∧r.cells.length=1∧r.fz=false∧r.lst=false∧m then some ⟨.und,[(x,some ⟨r.v,r.ty,[.alm y' v'],true,false,false⟩)]⟩ else none
 | none=>none
theorem Wg {τ:Ty} {x v y y' v':Nat} : cG τ h (.pm x v y) (.mp y' v')=X1 τ x y y' v' (gR h y v').isSome (live h x v):=by
 simp only[cG,X1]
 cases live h x v<;>rfl
theorem Hd {x y v' v ty:Nat} {c:D} {b:Nat} {ds:Ds} {z:List Value} {q mp:Bool} : X1 ⟨ds,1,b,z,q⟩ x y y v' true (some ⟨v,ty,[c],false,false,mp⟩)=some ⟨.und,[(x,some ⟨v,ty,[.alm y v'],true,false,false⟩)]⟩:=by
 simp[X1]
theorem YJ {x v:Nat} : nm (.mp x v)=[x]:=ae2
theorem VI {ks:List Int} {vs:List D} : nm (.mpc ks vs)=[]:=ae2
theorem YK {x v y:Nat} : nm (.pm x v y)=[x,y]:=ae2
def Z5 (x:Nat):Option (List Int×List D)->Option (D×List Nat)
 | some (ks,vs)=>some (.mpc ks vs,[x])
 | none=>none
theorem JE {x:Nat} {ks:List Int} {vs:List D} : Z5 x (some (ks,vs))=some (.mpc ks vs,[x]):=ae2
theorem QD {x v:Nat} : bo h (.mp x v)=Z5 x (gR h x v):=by
 simp only[bo,aM,Z5]
 cases gR h x v<;>rfl
theorem Jy {ks:List Int} {vs:List D} : bo h (.mpc ks vs)=some (.mpc ks vs,[]):=ae2
theorem Uv {x v:Nat} : aM h (.mp x v)=Z5 x (gR h x v):=by
 simp only[aM,Z5]
 cases gR h x v<;>rfl
theorem Qy {ks:List Int} {vs:List D} : aM h (.mpc ks vs)=some (.mpc ks vs,[]):=ae2
theorem Uu {xs:List D} : aM h (.ip xs)=some (.ip xs,[]):=ae2
theorem Qz {x v o:Nat} : aM h (.ptr x v o)=ZV x o (live h x v):=by
 simp only[aM]
 cases live h x v with
 | none=>rfl
 | some r=>simp only[ZV]
def clN (x y:Nat):Option (List Int×List D)->Option (D×List Nat)
 | some (ks,vs)=>some (.ip [.mpc ks vs],[x,y])
 | none=>none
theorem JF {x y:Nat} {ks:List Int} {vs:List D} : clN x y (some (ks,vs))=some (.ip [.mpc ks vs],[x,y]):=ae2
def clQ (h:Nat->Option Row) (x y:Nat):Option Row->Option (D×List Nat)
 | some r=>match r.cells with
  | [.alm y' v']=>if r.fz=true∧r.lst=false∧y'=y then clN x y (gR h y v') else none
  | _=>none
 | none=>none
theorem JI {x y v' v ty:Nat} {mp:Bool} : clQ h x y (some ⟨v,ty,[.alm y v'],true,false,mp⟩)=clN x y (gR h y v'):=by
 simp[clQ]
theorem Uw {x v y:Nat} : aM h (.pm x v y)=clQ h x y (live h x v):=by
 simp only[aM]
 cases live h x v with
 | none=>rfl
 | some r =>
  obtain⟨v',ty,cells,fz,lst,mp⟩:=r
  rcases cells with _|⟨c,_|⟨c',cs⟩⟩<;>rfl
theorem RA {x v o:Nat} : iO (.ptr x v o)=true:=ae2
theorem VM {x v y:Nat} : iO (.pm x v y)=true:=ae2
theorem VK {xs:List D} : iO (.ip xs)=true:=ae2
theorem VL {x v:Nat} : iO (.mp x v)=true:=ae2
theorem Rz {ks:List Int} {vs:List D} : iO (.mpc ks vs)=true:=ae2
theorem Vc {v ty:Nat} {cells:List D} {fz mp:Bool} : pL ⟨v,ty,cells,fz,true,mp⟩=⟨v,ty,cells,true,true,mp⟩:=by cases fz<;>rfl
theorem Ra {d:Nat} : a6.hint d=none:=ae2
theorem KV {f:Nat} {l:Bool} {G:Option (D×Row)->List D->Option (RK×Option Row)} {d:Nat} : (Am.ext Γ f l G).hint d=Γ.hint d:=ae2
theorem FL {d i:Nat} : (Am.keep d Γ).hint i=Γ.hint i:=ae2
theorem FK {d y i:Nat} : (Am.vo d y Γ).hint i=if i=d then some y else Γ.hint i:=ae2
theorem KZ {d y i:Nat} : (Am.vo d y Γ).own i=Γ.own i:=ae2
theorem Cd {d y i:Nat} : (Am.vo d y Γ).lends i=Γ.lends i:=ae2
theorem K3 {d y i:Nat} {lent:Option (D×Row)} {acg:List D} : (Am.vo d y Γ).sem i lent acg=Γ.sem i lent acg:=ae2
theorem FE {ks:List Int} {vs:List D} : fJ (.mpc ks vs)=false:=ae2
theorem EM {ks:List Int} {vs:List D} : canon (.mpc ks vs)=.mpc ks vs:=ae2
theorem Bd {ks:List Int} {vs:List D} : fa (.mpc ks vs)=.mpc ks vs:=ae2
end
structure rY {α:Type} (E:gY α) (C:List D) (o:Nat) (l:List α):Prop where
 fit:o+l.length*E.size<=C.length
 eq:(C.drop o).take (l.length*E.size)=ae E l
theorem rY.self {α:Type} (E:gY α) (l:List α):rY E (ae E l) 0 l:=⟨by rw[bH];omega,by rw[adI,<- bH,aen]⟩
theorem rY.split {α:Type} {E:gY α} {C:List D} {o:Nat} {l:List α} (F:rY E C o l):C.drop o=ae E l++C.drop (o+l.length*E.size):=by
 rw[<- ad8]
 conv=>lhs;rw[<- ad9 (l.length*E.size) (C.drop o)]
 rw[F.eq]
theorem rY.idx {α:Type} {E:gY α} {C:List D} {o:Nat} {l:List α} {i:Int} {x:α} (F:rY E C o l) (h:P.idx l i=some x):o+i.toNat*E.size+E.size<=C.length∧∃rest,C.drop (o+i.toNat*E.size)=E.cells x++rest:=by
 have h1:=jx E h
 have h2:=F.fit
 refine⟨by omega,ae E (l.drop (i.toNat+1))++C.drop (o+l.length*E.size),?_⟩
 rw[<- ad8,F.split,adD (by rw[bH];omega),w7 E h,adC]
theorem rY.tail {α:Type} {E:gY α} {C:List D} {o:Nat} {l m:List α} {a:Int} (F:rY E C o l) (h:Al l a (l.length:Int)=some m):rY E C (o+a.toNat*E.size) m:=by
 obtain⟨h1,h2,h3,h4,h5⟩:=V7 E h
 have h6:=F.fit
 have h7:a.toNat*E.size+m.length*E.size=l.length*E.size:=by rw[<- adu];congr 1;omega
 refine⟨by omega,?_⟩
 rw[<- ad8,F.split,adD (by rw[bH];omega),adG (by rw[acH,bH];omega),h5]
theorem aa6:type_of% (ai @L0<|ai @L4<|ai @Lt<|ai @LI<|ai @Rl<|ai @YG<|ai @YF<|ai @L2<|ai @FY<|ai @Ma<|ai @L9<|ai @L8<|ai @Nw<|ai @Hk<|ai @Nv<|ai @Yr<|ai @Lm<|ai @Wg<|ai @Hd<|ai @YJ<|ai @VI<|@YK):=⟨@L0,@L4,@Lt,@LI,@Rl,@YG,@YF,@L2,@FY,@Ma,@L9,@L8,@Nw,@Hk,@Nv,@Yr,@Lm,@Wg,@Hd,@YJ,@VI,@YK⟩
theorem aa7:type_of% (ai @JE<|ai @QD<|ai @Jy<|ai @Uv<|ai @Qy<|ai @Uu<|ai @Qz<|ai @JF<|ai @JI<|ai @Uw<|ai @RA<|ai @VM<|ai @VK<|ai @VL<|ai @Rz<|ai @Vd<|ai @Vb<|ai @Vc<|ai @Ra<|ai @KV<|ai @FL<|ai @FK<|ai @KZ<|ai @Cd<|ai @K3<|ai @Gq<|ai @Gp<|ai @FE<|ai @EM<|ai @Bd<|ai @Ka<|@Yg):=⟨@JE,@QD,@Jy,@Uv,@Qy,@Uu,@Qz,@JF,@JI,@Uw,@RA,@VM,@VK,@VL,@Rz,@Vd,@Vb,@Vc,@Ra,@KV,@FL,@FK,@KZ,@Cd,@K3,@Gq,@Gp,@FE,@EM,@Bd,@Ka,@Yg⟩
theorem aa8:type_of% (ai @zb<|ai @zf<|ai @Bq<|ai @Bt<|ai @u9<|ai @vf<|ai @Bp<|ai @Bs<|ai @vB<|ai @xG<|ai @rX<|ai @xF<|ai @Ud<|ai @Qk<|@Ue):=⟨@zb,@zf,@Bq,@Bt,@u9,@vf,@Bp,@Bs,@vB,@xG,@rX,@xF,@Ud,@Qk,@Ue⟩
theorem aa2:type_of% (ai @Ll<|ai @Vr<|ai @Lo<|ai @Wh<|ai @Dk<|ai @FF<|@U9):=⟨@Ll,@Vr,@Lo,@Wh,@Dk,@FF,@U9⟩
theorem vi:type_of% (ai @aa6<|ai @aa7<|ai @aa2<|@aa8):=⟨@aa6,@aa7,@aa2,@aa8⟩
end Go.Proofs.Ytchndpjlijbplaa.Am
namespace Go.Proofs.Ytchndpjlijbplaa.P
open Go.RowKit
set_option linter.unusedSimpArgs false
set_option linter.unusedVariables false
theorem wrap64 {x:Int} (h1 : -9223372036854775808<=x) (h2:x<9223372036854775808):IntKind.i64.wrap x=x:=by
 have key:IntKind.i64.wrap x=if x % 18446744073709551616>=9223372036854775808 then x % 18446744073709551616-18446744073709551616 else x % 18446744073709551616:=by
  unfold IntKind.wrap
  by_cases h:x % 18446744073709551616>=9223372036854775808
  ·rw[if_pos h];exact if_pos (by simpa [IntKind.bits,IntKind.signed] using h)
  ·rw[if_neg h];exact if_neg (by simpa [IntKind.bits,IntKind.signed] using h)
 rw[key]
 split<;>omega
theorem K5 {α:Type} {l:List α} {i:Int} {x:α} (h0:0<=i) (h:l[i.toNat]? = some x):P.idx l i=some x:=by
 have:=(acQ.1 h).1
 unfold P.idx
 rw[if_pos ⟨h0,by omega⟩,h]
theorem cr {α:Type} {l:List α} {i:Nat} (h:i<l.length):P.idx l (i:Int)=some (l[i]):=K5 (by omega) (by simp[h])
theorem XW {α:Type} {l:List α} {i:Nat} (h:i<=l.length):Al l 0 (i:Int)=some (l.take i):=by
 unfold Al
 rw[if_pos ⟨by omega,by omega,by omega⟩]
 simp
end Go.Proofs.Ytchndpjlijbplaa.P
namespace Go.Proofs.Ytchndpjlijbplaa.Am
open Go.RowKit Go.Deep Go.ChangeShapes Go.WideShapes
set_option linter.unusedSimpArgs false
set_option linter.unusedVariables false
def DB (T:Nat->Option Ty):Nat->Nat->List D->Prop
 | 0,_,_=>False
 | n+1,t,xs =>
  match T t with
  | none=>False
  | some τ=>xs.length=τ.size ∧
   match τ.ds with
   | .int k=>∃i,xs=[.int k i]∧(Lit.int k i).wf=true
   | .bool=>∃b,xs=[.bool b]
   | .str=>∃s:ByteArray,xs=[.str s]∧s.size<=140737488351232
   | .slice e=>∃len ys φ,xs=[.sl false false len ys]∧len*φ.bytes<=140737488351232∧T e=some φ∧ys.length=len*φ.size∧∀i,i<len->DB T n e ((ys.drop (i*φ.size)).take φ.size)
   | .struct fs=>∀f∈fs,∃φ,T f.1=some φ∧DB T n f.1 ((xs.drop f.2).take φ.size)
   | .arr m e=>∃φ,T e=some φ∧∀i,i<m->DB T n e ((xs.drop (i*φ.size)).take φ.size)
   | .map _ _=>False
   | .other=>False
def zt (T:Nat->Option Ty):Nat->List (Nat×Nat)->Nat->Bool
 | o,[],z=>o==z
 | o,(ft,off)::fs,z=>off==o&&match T ft with|some φ=>zt T (o+φ.size) fs z|none=>false
def To (T:Nat->Option Ty):Nat->Nat->Bool
 | 0,_=>false
 | n+1,t =>
  match T t with
  | none=>false
  | some τ =>
   match τ.ds with
   | .int _ | .bool | .str=>τ.size==1
   | .slice e=>τ.size==1&&To T n e&&(match T e with|some φ=>decide (0<φ.size)|none=>false)
   | .struct fs=>zt T 0 fs τ.size&&fs.all fun f=>To T n f.1
   | .arr m e=>To T n e&&(match T e with|some φ=>τ.size==m*φ.size|none=>false)
   | .map _ _=>false
   | .other=>false
def lT (w:World) (M:Nat->Prop) (xs:List D) (cs:List Value):Prop:=xs.length=cs.length∧∀(j:Nat) (x:D),xs[j]? = some x->aT x=true∧∃v,cs[j]? = some v∧RP w M x v
theorem lT.append {w:World} {M:Nat->Prop} {xs ys:List D} {cs ds:List Value} (h:lT w M xs cs) (k:lT w M ys ds):lT w M (xs++ys) (cs++ds):=by
 refine⟨by simp[h.1,k.1],fun j x hj =>?_⟩
 rw[ac4]at hj ⊢
 rw[<- h.1]
 split at hj
 ·rename_i hlt;rw[if_pos hlt];exact h.2 j x hj
 ·rename_i hlt;rw[if_neg hlt];exact k.2 _ x hj
theorem BW {α:Type} (s:Nat):∀(ls:List (List α)),(∀l∈ls,l.length=s)->∀(i:Nat) (l:List α),ls[i]? = some l->(ls.flatten.drop (i*s)).take s=l
 | [],_,i,l,h=>by simp at h
 | a::ls,hl,0,l,h=>by
  simp only[List.getElem?_cons_zero,acw]at h
  subst h
  have:a.length=s:=hl a (by simp)
  simp[this]
 | a::ls,hl,i+1,l,h=>by
  have ha:a.length=s:=hl a (by simp)
  rw[List.flatten_cons,ad5,ad6 (by rw[ha,adk];omega),ad3,ha,adk,ad7]
  exact BW s ls (fun x hx=>hl x (adP _ hx)) i l h
theorem Kq {α:Type} (s:Nat):∀(ls:List (List α)),(∀l∈ls,l.length=s)->ls.flatten.length=ls.length*s
 | [],_=>by simp
 | a::ls,hl=>by
  rw[List.flatten_cons,adq,Kq s ls (fun x hx=>hl x (adP _ hx)),hl a (by simp),acN,adk]
  omega
section
variable {H:Type} {enc:TypeId×Value->H} {P:Program} {w:World} {base:Nat} {spare:Nat->Bool} {held:Bool} {T:Nat->Option Ty}
theorem fM.bytesOf {P:Program} {t:Nat} {τ:Ty} (h:fM P t τ):P.bytesOf t=τ.bytes:=by
 have:=h.info
 unfold Program.bytesOf
 cases hi:P.info? t with
 | none=>rw[hi]at this;simp at this
 | some i=>rw[hi]at this;simp only[Option.map_some,acw,Prod.mk.injEq]at this;simp[this.2.1]
def Reach (P:Program) (t:Nat) (d:DataW H):Prop:=∀k∈d.weights P t,k<=140737488351232
theorem yE {e:TypeId} : ∀(l:List (DataW H)) (j:Nat) (d:DataW H),l[j]? = some d->∀k∈d.weights P e,k∈DataW.weightsAll P e l
 | x::l,0,d,h,k,hk=>by
  simp only[List.getElem?_cons_zero,acw]at h
  subst h
  simp only[DataW.weightsAll,adw]
  exact .inl hk
 | x::l,j+1,d,h,k,hk=>by
  simp only[DataW.weightsAll,adw]
  exact .inr (yE l j d (by simpa using h) k hk)
 | [],j,d,h,k,hk=>by simp at h
theorem fM.cells {P:Program} {t:Nat} {τ:Ty} (h:fM P t τ):P.cellsOf t=τ.size:=by
 have:=h.info
 unfold Program.cellsOf
 cases hi:P.info? t with
 | none=>rw[hi]at this;simp at this
 | some i=>rw[hi]at this;simp only[Option.map_some,acw,Prod.mk.injEq]at this;simp[this.1]
theorem Rg {T:Nat->Option Ty} {w:World} {M:Nat->Prop} {cs:List Value} : ∀(fs:List (Nat×Nat)) (o z:Nat) (f:Nat×Nat->List D),zt T o fs z=true->cs.length=z ->
  (∀p∈fs,∃φ,T p.1=some φ∧lT w M (f p) ((cs.drop p.2).take φ.size))->o<=z->∃xs,lT w M xs (cs.drop o)∧∀p∈fs,∃φ,T p.1=some φ∧o<=p.2∧(xs.drop (p.2-o)).take φ.size=f p
 | [],o,z,f,hl,hc,_,_=>by
  simp only[zt,beq_iff_eq]at hl
  refine⟨[],⟨by rw[acH,hc,hl];simp,fun j x hj=>by simp at hj⟩,fun p hp=>by simp at hp⟩
 | (ft,off)::fs,o,z,f,hl,hc,hp,hoz=>by
  simp only[zt,acY,beq_iff_eq]at hl
  obtain⟨rfl,hl⟩:=hl
  obtain⟨φ,hφ,hR⟩:=hp (ft,off) (by simp)
  simp only[hφ]at hl
  have hz:off+φ.size<=z:=by
   have:∀(fs:List (Nat×Nat)) (o:Nat),zt T o fs z=true->o<=z:=by
    intro fs
    induction fs with
    | nil=>intro o h;simp only[zt,beq_iff_eq]at h;omega
    | cons p fs ih =>
     intro o h
     obtain⟨a,b⟩:=p
     simp only[zt,acY]at h
     have h2:=h.2
     split at h2
     ·have:=ih _ h2;omega
     ·cases h2
   exact this fs _ hl
  obtain⟨xs,hx,hxs⟩:=Rg fs (off+φ.size) z f hl hc (fun p h=>hp p (adP _ h)) hz
  have hfl:(f (ft,off)).length=φ.size:=by
   rw[hR.1,acG,acH,hc];omega
  refine⟨f (ft,off)++xs,?_,fun p h =>?_⟩
  ·have:=hR.append hx
   rw[<- ad8,ad9]at this
   exact this
  ·rcases acu.1 h with rfl|h
   ·exact⟨φ,hφ,acm _,by simp only[ads,adI];rw[adG (by omega),adH (by omega)]⟩
   ·obtain⟨ψ,h1,h2,h3⟩:=hxs p h
    refine⟨ψ,h1,by omega,?_⟩
    rw[ad5,ad6 (by omega),ad3,hfl]
    have:p.2-off-φ.size=p.2-(off+φ.size):=by omega
    rw[this,h3]
theorem lT.one {w:World} {M:Nat->Prop} {x:D} {v:Value} (hp:aT x=true) (h:RP w M x v):lT w M [x] [v]:=by
 refine⟨rfl,fun j y hj =>?_⟩
 match j,hj with
 | 0,hj=>simp only[List.getElem?_cons_zero,acw]at hj;subst hj;exact⟨hp,v,rfl,h⟩
 | j+1,hj=>simp at hj
theorem lT.flat {w:World} {M:Nat->Prop} {cs:List Value} {s:Nat} : ∀(ls:List (List D)) (o:Nat),(∀(i:Nat) l,ls[i]? = some l->lT w M l ((cs.drop (o+i*s)).take s))->(∀l∈ls,l.length=s)->lT w M ls.flatten ((cs.drop o).take (ls.length*s))
 | [],o,_,_=>⟨by simp,fun j x hj=>by simp at hj⟩
 | a::ls,o,h,hl=>by
  have h0:=h 0 a rfl
  have h1:=lT.flat ls (o+s) (fun i l hi=>by
   have:=h (i+1) l (by simpa using hi)
   rw[adk]at this
   rw[show o+s+i*s=o+(i*s+s) by omega]
   exact this) (fun l hx=>hl l (adP _ hx))
  have:=h0.append h1
  rw[aea,acW]at this
  rw[List.flatten_cons,acN,adk,Nat.add_comm (ls.length*s) s,List.take_add,ad8]
  exact this
theorem Y6 (hT:jn P T) {M:Nat->Prop} (hM:∀b,base<=b->b<w.heap.size->¬M b):∀(n t fuel:Nat) (cs:List Value) (x:DataW H×List MemPlace),To T n t=true->DataW.trod enc P w base spare held fuel t cs=some x->Reach P t x.1->∃xs,DB T n t xs∧lT w M xs cs:=by
 intro n
 induction n with
 | zero=>intro t fuel cs x h;cases h
 | succ n ih =>
  intro t fuel cs x hok h hw
  unfold To at hok
  unfold DB
  cases hτ:T t with
  | none=>rw[hτ]at hok;cases hok
  | some τ =>
   rw[hτ]at hok
   simp only at hok ⊢
   obtain⟨d,hd,hc⟩:=under hT hτ
   cases hds:τ.ds with
   | int k =>
    rw[hds]at hok hc
    simp only[beq_iff_eq]at hok
    have hd':=wJ hc
    subst hd'
    obtain⟨i,rfl,_,hw⟩:=DataW.trod_int hd h
    exact⟨[.int k i],⟨by rw[hok];rfl,i,rfl,hw⟩,.one rfl (.int k i)⟩
   | bool =>
    rw[hds]at hok hc
    simp only[beq_iff_eq]at hok
    have hd':=tX hc
    subst hd'
    obtain⟨b,rfl,_⟩:=DataW.trod_bool hd h
    exact⟨[.bool b],⟨by rw[hok];rfl,b,rfl⟩,.one rfl (.bool b)⟩
   | str =>
    rw[hds]at hok hc
    simp only[beq_iff_eq]at hok
    have hd':=pJ hc
    subst hd'
    obtain⟨s,rfl,rfl,hs⟩:=DataW.trod_string hd h
    have hs':s.size<=140737488351232:=by
     have:=hw s.data.toList.length (by simp[DataW.weights])
     simpa using this
    exact⟨[.str s],⟨by rw[hok];rfl,s,rfl,hs'⟩,.one rfl (.str s)⟩
   | map _ _=>rw[hds]at hok;cases hok
   | other=>rw[hds]at hok;cases hok
   | struct fs =>
    rw[hds]at hok hc
    simp only[acY,acy]at hok
    obtain⟨F,rfl,hF⟩:=gP hc
    obtain⟨ys,m,_,rfl,hlen,hyl,hf⟩:=DataW.trod_struct hd h
    have hwy:∀(i:Nat) (f:Field) y,F[i]? = some f->ys[i]? = some y->Reach P f.type y.1:=by
     intro i f y hfi hyi k hk
     refine hw k ?_
     simp only[DataW.weights,hd]
     exact DataW.weights_mem_each (j:=i) (t:=f.type) (d:=y.1) (by rw[aci,adf,hfi];rfl) (by simp[hyi]) k hk
    rw[(hT t τ hτ).cells]at hlen
    have hone:∀p:Nat×Nat,∃zs,p∈fs->∃φ,T p.1=some φ∧DB T n p.1 zs∧lT w M zs ((cs.drop p.2).take φ.size):=by
     intro p
     by_cases hp:p∈fs
     ·have hokp:=hok.2 p hp
      rw[<- hF]at hp
      obtain⟨f,hfm,rfl⟩:=ack.1 hp
      obtain⟨i,hi⟩:=List.mem_iff_getElem?.1 hfm
      have h1:=hf i f (by simpa using hi)
      simp only at hokp ⊢
      cases hφ:T f.type with
      | none=>cases n with
       | zero=>cases hokp
       | succ n=>simp only[To,hφ]at hokp;cases hokp
      | some φ =>
       rw[(hT _ φ hφ).cells]at h1
       have hi':i<ys.length:=by
        have:=(acQ.1 hi).1
        simp only[Array.length_toList]at this
        omega
       rw[acA hi']at h1
       obtain⟨zs,hz1,hz2⟩:=ih _ _ _ _ hokp h1 (hwy i f _ (by simpa using hi) (acA hi'))
       exact⟨zs,fun _=>⟨φ,rfl,hz1,hz2⟩⟩
     ·exact⟨[],fun h=>(hp h).elim⟩
    obtain⟨f,hf2⟩:=Classical.axiomOfChoice hone
    obtain⟨xs,hx,hparts⟩:=Rg fs 0 τ.size f hok.1 hlen (fun p hp=>by obtain⟨φ,a,_,b⟩:=hf2 p hp;exact⟨φ,a,b⟩) (acn _)
    rw[adI]at hx
    refine⟨xs,⟨by rw[hx.1,hlen],fun p hp =>?_⟩,hx⟩
    obtain⟨φ,h1,_,h3⟩:=hparts p hp
    obtain⟨ψ,g1,g2,_⟩:=hf2 p hp
    rw[h1]at g1
    cases g1
    rw[Nat.sub_zero]at h3
    exact⟨φ,h1,by rw[h3];exact g2⟩
   | arr m e =>
    rw[hds]at hok hc
    simp only[acY]at hok
    have hd':=wI hc
    subst hd'
    obtain⟨ys,k,_,rfl,hlen,hyl,hf⟩:=DataW.trod_array hd h
    have hwy:∀(i:Nat) y,ys[i]? = some y->Reach P e y.1:=by
     intro i y hyi k hk
     refine hw k ?_
     simp only[DataW.weights,hd]
     exact yE _ i y.1 (by simp[hyi]) k hk
    rw[(hT t τ hτ).cells]at hlen
    obtain⟨hok1,hok2⟩:=hok
    split at hok2
    ·rename_i φ hφ
     simp only[beq_iff_eq]at hok2
     have hone:∀i:Nat,∃zs,i<m->DB T n e zs∧lT w M zs ((cs.drop (i*φ.size)).take φ.size):=by
      intro i
      by_cases hi:i<m
      ·have h1:=hf i hi
       rw[(hT _ φ hφ).cells,acA (by omega)]at h1
       obtain⟨zs,hz1,hz2⟩:=ih _ _ _ _ hok1 h1 (hwy i _ (acA (by omega)))
       exact⟨zs,fun _=>⟨hz1,hz2⟩⟩
      ·exact⟨[],fun h=>(hi h).elim⟩
     obtain⟨f,hf2⟩:=Classical.axiomOfChoice hone
     have hls:∀l∈(List.range m).map f,l.length=φ.size:=by
      intro l hl
      obtain⟨i,hi,rfl⟩:=ack.1 hl
      have hi:=adZ.1 hi
      rw[(hf2 i hi).2.1,acG,acH,hlen,hok2]
      have:(i+1)*φ.size<=m*φ.size:=ac9 _ hi
      rw[adk]at this
      omega
     have hget:∀(i:Nat) l,((List.range m).map f)[i]? = some l->i<m∧l=f i:=by
      intro i l hl
      rw[aci,acj]at hl
      obtain⟨j,hj,rfl⟩:=hl
      obtain⟨hj1,hj2⟩:=acQ.1 hj
      simp only[acS]at hj1
      simp only[acT]at hj2
      exact⟨hj1,by rw[hj2]⟩
     have hall:lT w M ((List.range m).map f).flatten ((cs.drop 0).take (((List.range m).map f).length*φ.size)):=by
      refine lT.flat _ 0 (fun i l hl =>?_) hls
      obtain⟨hi,rfl⟩:=hget i l hl
      rw[ada]
      exact (hf2 i hi).2
     rw[acR,acS,adI,adH (by omega)]at hall
     refine⟨_,⟨by rw[hall.1,hlen],φ,hφ,fun i hi =>?_⟩,hall⟩
     have hi':((List.range m).map f)[i]? = some (f i):=by simp[hi]
     rw[BW φ.size _ hls i _ hi']
     exact (hf2 i hi).1
    ·cases hok2
   | slice e =>
    rw[hds]at hok hc
    simp only[acY,beq_iff_eq]at hok
    have hd':=eR hc
    subst hd'
    obtain⟨⟨hone,hoke⟩,hpos⟩:=hok
    split at hpos
    ·rename_i φ hφ
     simp only[decide_eq_true_eq]at hpos
     rcases open_slice hd h with⟨rfl,_⟩|⟨a,len,cap,m,k,D',Pl,rfl,hb,hl,hm,hmm,rfl,hi⟩
     ·refine⟨[.sl false false 0 []],⟨by rw[hone];rfl,0,[],φ,rfl,by omega,hφ,by simp,fun i hi=>by omega⟩,.one rfl ?_⟩
      exact .sl none 0 false false 0 [] (fun _=>undef) (acm _) (acn _) (fun h=>by cases h) (fun _=>⟨rfl,rfl⟩) (fun h=>by cases h) (fun h=>(h rfl).elim) (fun j x hj=>by simp at hj) (fun x hx=>by simp at hx)
     ·have hlm:len<=m:=by rw[hmm];split<;>omega
      have hwl:len*φ.bytes<=140737488351232:=by
       have h1:=hw ((((List.range len).map D').length+((List.range (m-len)).map fun j=>D' (len+j)).length)*P.bytesOf e) (by simp[DataW.weights,hd])
       rw[(hT _ φ hφ).bytesOf]at h1
       simp only[acR,acS]at h1
       exact aco (ac9 _ (by omega)) h1
      have hwy:∀i,i<len->Reach P e (D' i):=by
       intro i hi' k hk
       refine hw k ?_
       simp only[DataW.weights,hd,acu,adw]
       exact .inr (.inl (yE _ i (D' i) (by simp[hi']) k hk))
      have hone':∀i:Nat,∃zs,i<len->DB T n e zs∧zs.length=φ.size∧∀(j:Nat) z,zs[j]? = some z->aT z=true∧∃v,w.cell? (a.add (i*φ.size+j))=some v∧RP w M z v:=by
       intro i
       by_cases hil:i<len
       ·obtain⟨cs',hc1,hc2⟩:=hi i (by omega)
        rw[(hT _ φ hφ).cells]at hc1
        obtain⟨_,g1,g2⟩:=World.cells?_some hc1
        obtain⟨zs,hz1,hz2⟩:=ih _ _ _ _ hoke hc2 (hwy i hil)
        refine⟨zs,fun _=>⟨hz1,by rw[hz2.1,g1],fun j z hj =>?_⟩⟩
        obtain⟨p1,v,p2,p3⟩:=hz2.2 j z hj
        refine⟨p1,v,?_,p3⟩
        have hj':j<φ.size:=by rw[<- g1];exact (acQ.1 p2).1
        rw[<- Go.Deep.add_add,g2 j hj',p2]
       ·exact⟨[],fun h=>(hil h).elim⟩
      obtain⟨f,hf2⟩:=Classical.axiomOfChoice hone'
      have hls:∀l∈(List.range len).map f,l.length=φ.size:=by
       intro l hl
       obtain⟨i,hi,rfl⟩:=ack.1 hl
       exact (hf2 i (adZ.1 hi)).2.1
      have hfl:((List.range len).map f).flatten.length=len*φ.size:=by rw[Kq φ.size _ hls];simp
      have hseg:∀i,i<len->(((List.range len).map f).flatten.drop (i*φ.size)).take φ.size=f i:=fun i hi=>BW φ.size _ hls i (f i) (by simp[hi])
      have hat:∀(p:Nat) z,((List.range len).map f).flatten[p]? = some z->aT z=true∧∃v,w.cell? (a.add p)=some v∧RP w M z v:=by
       intro p z hp
       have hpl:=(acQ.1 hp).1
       rw[hfl]at hpl
       have hq:p / φ.size<len:=Nat.div_lt_of_lt_mul (by rwa [adl])
       have hr:p % φ.size<φ.size:=Nat.mod_lt _ hpos
       have he:p / φ.size*φ.size+p % φ.size=p:=Nat.div_add_mod' p φ.size
       have hz:(f (p / φ.size))[p % φ.size]? = some z:=by
        rw[<- hseg _ hq,acD,if_pos hr,acE,he]
        exact hp
       have:=(hf2 _ hq).2.2 _ z hz
       rw[he]at this
       exact this
      refine⟨[.sl false false len ((List.range len).map f).flatten],⟨by rw[hone];rfl,len,_,φ,rfl,hwl,hφ,hfl,fun i hi=>by rw[hseg i hi];exact (hf2 i hi).1⟩,.one rfl ?_⟩
      refine .sl (some a) cap false false len _ (fun j=>(w.cell? (a.add j)).getD undef) hl hm (fun h=>by cases h) (fun h=>by cases h) (fun h=>by cases h) (fun hne =>?_) (fun j z hj =>?_) (fun z hz =>?_)
      ·have h0:0<((List.range len).map f).flatten.length:=aeb.2 hne
       obtain⟨_,v,hv,_⟩:=hat 0 _ (acA h0)
       obtain⟨b,o,sp⟩:=a
       have hsp:sp=none:=by
        unfold World.cell? at hv
        split at hv
        ·split at hv
         ·cases hv
         ·rename_i h;simpa [Addr.add] using h
        ·cases hv
       subst hsp
       have hbs:b<w.heap.size:=by
        unfold World.cell? at hv
        split at hv
        ·rename_i hh;exact (acq.1 hh).1
        ·cases hv
       refine⟨b,o,rfl,hbs,hM b hb hbs,fun j hj =>?_⟩
       obtain⟨_,v,hv,_⟩:=hat j _ (acA hj)
       have ha:Addr.add ⟨b,o,none⟩ j=⟨b,o+j,none⟩:=by
        unfold Addr.add
        split
        ·rename_i h0;rw[h0];rfl
        ·rfl
       have hv':w.cell? ⟨b,o+j,none⟩=some v:=by rw[<- ha];exact hv
       rw[hv']
       simp only[hv,Option.getD_some]
      ·obtain⟨_,v,hv,hr⟩:=hat j z hj
       rw[hv]
       exact hr
      ·obtain⟨j,hj⟩:=List.mem_iff_getElem?.1 hz
       exact (hat j z hj).1
    ·cases hpos
def sk (T:Nat->Option Ty) (n t:Nat) (d:D):Prop :=
 match T t with
 | some τ=>if τ.ds.oe then ∃xs,d=.agg xs∧DB T n t xs else DB T n t [d]
 | none=>False
theorem lT.agg {w:World} {M:Nat->Prop} {xs:List D} {cs:Array Value} (h:lT w M xs cs.toList):RP w M (.agg xs) (.agg cs):=by
 have:=RP.agg (w:=w) (M:=M) xs cs.toList h.1.symm (fun j x hj=>by
  obtain⟨_,v,h1,h2⟩:=h.2 j x hj
  simp only[List.getD,h1,Option.getD_some]
  exact h2) (fun x hx=>by
  obtain⟨j,hj⟩:=List.mem_iff_getElem?.1 hx
  exact (h.2 j x hj).1)
 simpa using this
theorem lT.single {w:World} {M:Nat->Prop} {xs:List D} {v:Value} (h:lT w M xs [v]):∃x,xs=[x]∧RP w M x v:=by
 match xs,h with
 | [],h=>have:=h.1;simp at this
 | [x],h=>obtain⟨_,u,h1,h2⟩:=h.2 0 x rfl;simp only[List.getElem?_cons_zero,acw]at h1;subst h1;exact⟨x,rfl,h2⟩
 | x::y::xs,h=>have:=h.1;simp at this
theorem Xe (hT:jn P T) {M:Nat->Prop} (hM:∀b,base<=b->b<w.heap.size->¬M b) {n t b0:Nat} {v:Value} {d:DataW H} {ps:List MemPlace} (hok:To T n t=true) (hv:Value.okWide P w .any b0 t v) (h:DataW.Trod enc P w base spare held t v d ps) (hw:Reach P t d) :
  ∃x,sk T n t x∧RP w M x v:=by
 obtain⟨fuel,h⟩:=h
 obtain⟨xs,h1,h2⟩:=Y6 hT hM n t fuel _ _ hok h hw
 unfold sk
 cases n with
 | zero=>cases hok
 | succ n =>
 cases hτ:T t with
 | none=>simp only[To,hτ]at hok;cases hok
 | some τ =>
  simp only
  obtain⟨d',hd,hc⟩:=under hT hτ
  cases hds:τ.ds with
  | int k =>
   rw[hds]at hc
   have hd':=wJ hc
   subst hd'
   obtain⟨i,rfl⟩:=okWide_int hd hv
   obtain⟨x,rfl,hx⟩:=lT.single (v := .int k i) h2
   exact⟨x,by simpa [Ds.oe] using h1,hx⟩
  | bool =>
   rw[hds]at hc
   have hd':=tX hc
   subst hd'
   obtain⟨i,rfl⟩:=okWide_bool hd hv
   obtain⟨x,rfl,hx⟩:=lT.single (v := .bool i) h2
   exact⟨x,by simpa [Ds.oe] using h1,hx⟩
  | str =>
   rw[hds]at hc
   have hd':=pJ hc
   subst hd'
   obtain⟨i,rfl⟩:=okWide_string hd hv
   obtain⟨x,rfl,hx⟩:=lT.single (v := .string i) h2
   exact⟨x,by simpa [Ds.oe] using h1,hx⟩
  | slice e =>
   rw[hds]at hc
   have hd':=eR hc
   subst hd'
   obtain⟨a,len,cap,rfl⟩:=okWide_slice hd hv
   obtain⟨x,rfl,hx⟩:=lT.single (v := .slice a len cap) h2
   exact⟨x,by simpa [Ds.oe] using h1,hx⟩
  | struct fs =>
   rw[hds]at hc
   obtain⟨F,rfl,_⟩:=gP hc
   obtain⟨cs,rfl,_⟩:=okWide_struct hd hv
   exact⟨.agg xs,by simpa [Ds.oe] using h1,lT.agg h2⟩
  | arr m e =>
   rw[hds]at hc
   have hd':=wI hc
   subst hd'
   have:∃cs,v=.agg cs:=by
    unfold Value.okWide at hv
    rw[hd]at hv
    obtain⟨cs,h,_⟩:=hv
    exact⟨cs,h⟩
   obtain⟨cs,rfl⟩:=this
   exact⟨.agg xs,by simpa [Ds.oe] using h1,lT.agg h2⟩
  | map _ _=>simp only[To,hτ,hds]at hok;cases hok
  | other=>simp only[To,hτ,hds]at hok;cases hok
theorem Ew (hT:jn P T) {M:Nat->Prop} (hM:∀b,base<=b->b<w.heap.size->¬M b) {n b0:Nat} : ∀(ts:List TypeId) (vs:List Value) (ds:List (DataW H)) (ps:List MemPlace),DataW.TrodAll enc P w base spare held ts vs ds ps ->
  (∀(j:Nat) t v,ts[j]? = some t->vs[j]? = some v->Value.okWide P w .any b0 t v)->(∀t∈ts,To T n t=true)->(∀k∈DataW.weightsEach P ts ds,k<=140737488351232) ->
  ∃ar:List D,ar.length=vs.length∧(∀(j:Nat) x,ar[j]? = some x->∃v,vs[j]? = some v∧RP w M x v)∧ar.length=ts.length∧∀(j:Nat) t,ts[j]? = some t->∃x,ar[j]? = some x∧sk T n t x
 | [],[],[],ps,_,_,_,_=>⟨[],rfl,fun j x hj=>by simp at hj,rfl,fun j t hj=>by simp at hj⟩
 | t::ts,v::vs,d::ds,ps,h,hv,hok,hw=>by
  obtain⟨p,q,h1,h2,_⟩:=h
  obtain⟨x,hx1,hx2⟩:=Xe hT hM (hok t (by simp)) (hv 0 t v rfl rfl) h1 (fun k hk=>hw k (by simp only[DataW.weightsEach,adw];exact .inl hk))
  obtain⟨ar,g1,g2,g3,g4⟩:=Ew hT hM ts vs ds q h2 (fun j t' v' a b=>hv (j+1) t' v' (by simpa using a) (by simpa using b)) (fun t' ht=>hok t' (adP _ ht)) (fun k hk=>hw k (by simp only[DataW.weightsEach,adw];exact .inr hk))
  refine⟨x::ar,by simp[g1],fun j y hj =>?_,by simp[g3],fun j t' hj =>?_⟩
  ·cases j with
   | zero=>simp only[List.getElem?_cons_zero,acw]at hj;subst hj;exact⟨v,rfl,hx2⟩
   | succ j=>simpa using g2 j y (by simpa using hj)
  ·cases j with
   | zero=>simp only[List.getElem?_cons_zero,acw]at hj;subst hj;exact⟨x,rfl,hx1⟩
   | succ j=>simpa using g4 j t' (by simpa using hj)
 | [],[],_::_,_,h,_,_,_=>h.elim
 | [],_::_,_,_,h,_,_,_=>h.elim
 | _::_,[],_,_,h,_,_,_=>h.elim
 | _::_,_::_,[],_,h,_,_,_=>h.elim
end
end Go.Proofs.Ytchndpjlijbplaa.Am
namespace Go.Proofs.Ytchndpjlijbplaa.Am
open Go.RowKit Go.Deep Go.ChangeShapes Go.WideShapes Go.ChangeAt
set_option linter.unusedSimpArgs false
set_option linter.unusedVariables false
section
variable {H:Type} {enc:TypeId×Value->H} {P:Program}
theorem D6 {f:Func} {s:ChangeSpec} {apart fresh handsOn again:Bool} {W W':World} {args:Array Value} {v:Value} {ds gs:List (DataW H)} {before pa pv:List MemPlace}
  (hW:DataW.Whole enc P f.params.toList s.vars apart W args.toList ds gs before)
  (hres:∀(b:Nat) (sp:Nat->Bool) (hd:Bool),DataW.TrodAll enc P W' b sp hd f.resultTypes.toList (v.resultList f.resultTypes.size) (s.fn H (ds++gs)).results [])
  (hargs:∀sp:Nat->Bool,(∀p∈before,sp p.block=true)->DataW.TrodAll enc P W' 0 sp true f.params.toList args.toList (s.fn H (ds++gs)).args pa)
  (hvars:∀sp:Nat->Bool,(∀p∈before,sp p.block=true)->DataW.TrodVars enc P W' sp s.vars (s.fn H (ds++gs)).vars pv)
  (hps:before=pa++pv) (hb:Below W.heap.size W W')
  (hok:∀(j:Nat) (t:TypeId) (r:Value),f.resultTypes[j]? = some t->(v.resultList f.resultTypes.size)[j]? = some r->Value.okWide P W' .any 0 t r) :
  s.post enc P f apart fresh handsOn again W args v W':=by
 have hlt:∀p∈before,p.block<W.heap.size:=fun p hp=>hW.lt p hp
 have hold:∀p∈before,(fun b=>decide (b<W.heap.size)) p.block=true:=fun p hp=>by simpa using hlt p hp
 refine⟨ds,gs,before,[],pa,pv,hW,hres _ _ _,hargs _ hold,hvars _ hold,World.keptBut_mono (fun p hp=>⟨hp,?_⟩) (hb.frame (·∈before)),fun _ =>?_⟩
 ·rw[hps,adw]at hp
  exact Or.inr hp
 ·obtain⟨_,_,_,_,_,hz,hn⟩:=hW
  refine⟨hok,_,_,([]++pa)++pv,⟨[]++pa,pv,trodAll_append (hargs _ (fun _ _=>rfl)) (hres _ _ _),hvars _ (fun _ _=>rfl),rfl,?_,?_⟩,?_⟩
  ·intro b off hp
   have hin:MemPlace.cell b off∈before:=by rw[hps];simpa using hp
   rw[hb.frozen (hlt _ hin)]
   exact hz b off hin
  ·intro ha
   have:=hn ha
   rw[hps]at this
   simpa using this
  ·intro p hp _
   rw[hps]
   simpa using hp
theorem vC (hl:laidOutB P=true) {W W':World} {sp':Nat->Bool} : ∀ {ts:List TypeId} {vs:List Value} {ds:List (DataW H)} {ps:List MemPlace},(∀t∈ts,P.readableRec t=true∧t<P.types.size)->DataW.TrodAll enc P W 0 (fun _=>true) true ts vs ds ps ->
  (∀p∈ps,W.sameAt W' p)->(∀p∈ps,sp' p.block=true)->DataW.TrodAll enc P W' 0 sp' true ts vs ds ps
 | [],[],[],_,_,h,_,_=>h
 | t::ts,v::vs,d::ds,_,hr,⟨p,q,h1,h2,e⟩,hs,hp=>by
  subst e
  have ht:=hr t (by simp)
  exact⟨p,q,WideElems.Trod_stays hl ht.1 ht.2 h1 (fun x hx=>hs x (acB _ hx)) (fun x hx=>hp x (acB _ hx)),
   vC hl (fun t ht=>hr t (adP _ ht)) h2 (fun x hx=>hs x (acC _ hx)) (fun x hx=>hp x (acC _ hx)),rfl⟩
end
theorem VY {H:Type} {enc:TypeId×Value->H} {C:Checked} {T:Nat->Option Ty} {f:FuncId} {fn:Func} {s:ChangeSpec} {apart fresh handsOn again:Bool} {tb n:Nat} (hT:jn C.prog T)
  (hl:laidOutB C.prog=true) (hr:(fn.params.toList.all fun t=>C.prog.readableRec t&&decide (t<C.prog.types.size)&&To T n t)=true)
  (hres:fn.resultTypes = #[tb]) (htb:C.prog.underlying tb=some .bool) (hv:s.vars=[])
  (hs:∀ds:List (DataW H),ds.length=fn.params.toList.length->(s.fn H ds).results=[.lit (.bool true)]∧(s.fn H ds).args=ds∧(s.fn H ds).vars=[])
  (law:∀ar:List D,ar.length=fn.params.toList.length->(∀(j:Nat) t,fn.params.toList[j]? = some t->∃x,ar[j]? = some x∧sk T n t x)->NC C.prog f ar (.bool true))
  {W:World} {base:Nat} {args:Array Value} {ds gs:List (DataW H)} {before:List MemPlace}
  (hval:∀(j:Nat) t v,fn.params[j]? = some t->args[j]? = some v->Value.okWide C.prog W .any base t v) (hW:DataW.Whole enc C.prog fn.params.toList s.vars apart W args.toList ds gs before)
  (hsz:(DataW.weightsEach C.prog (fn.params.toList++s.plain.varTypes C.prog) (ds++gs)).all (·<=reachBytes)=true) (hTab:Sm W (fun _=>False)) :
  Calls C.prog f args W fun e W'=>∃v,e=.returned v∧s.post enc C.prog fn apart fresh handsOn again W args v W':=by
 have hW':=hW
 obtain⟨p,q,hA,hV,rfl,hfz,hnd⟩:=hW
 rw[hv]at hV
 obtain⟨rfl,rfl⟩:=trodVars_none hV
 simp only[acy,acY,decide_eq_true_eq]at hr
 obtain⟨ar,h1,h2,h3,h4⟩:=Ew (P:=C.prog) hT (M:=fun _=>False) (fun b _ _ h=>h) (n:=n) (b0:=base) fn.params.toList args.toList ds p hA
  (fun j t v a b=>hval j t v (by simpa using a) (by simpa using b)) (fun t ht=>(hr t ht).2) (fun k hk=>by
   rw[acy]at hsz
   have hv0:s.plain.varTypes C.prog=[]:=by unfold ChangeSpec.plain;simp only[hv];rfl
   rw[hv0,aec,aec]at hsz
   have h:=hsz k hk
   rw[decide_eq_true_eq]at h
   exact h)
 refine (law ar h3 h4 W (fun _=>False) args (fun b h=>h.elim) ⟨by simpa using h1.symm,fun j x hj =>?_,hTab⟩).mono fun e W' hG =>?_
 ·obtain⟨v,g1,g2⟩:=h2 j x hj
  have g1':args[j]? = some v:=by simpa using g1
  rw[acr,g1']
  exact g2
 ·obtain⟨v,rfl,hb,hv1⟩:=hG
  have hv2:RP W' (fun _=>False) (.bool true) v:=hv1
  cases hv2
  have hlen:ds.length=fn.params.toList.length:=by
   have:∀ {ts:List TypeId} {vs:List Value} {ds:List (DataW H)} {ps:List MemPlace},DataW.TrodAll enc C.prog W 0 (fun _=>true) true ts vs ds ps->ds.length=ts.length:=by
    intro ts
    induction ts with
    | nil=>intro vs ds ps h;cases vs<;>cases ds<;>first|rfl|exact h.elim
    | cons t ts ih =>
     intro vs ds ps h
     cases vs with
     | nil=>exact h.elim
     | cons v vs=>cases ds with
      | nil=>exact h.elim
      | cons d ds=>obtain⟨_,_,_,h2,_⟩:=h;simp[ih h2]
   exact this hA
  obtain⟨e1,e2,e3⟩:=hs ds hlen
  refine⟨_,rfl,D6 (pa:=p) (pv:=[]) hW' ?_ ?_ ?_ (by simp) hb ?_⟩
  ·intro b sp hd
   rw[aec,e1,hres]
   exact trodAll_mk1 ⟨1,by simp[DataW.trod,htb,Value.cells]⟩
  ·intro sp hsp
   rw[aec,e2]
   refine vC hl (fun t ht=>(hr t ht).1) hA (fun x hx=>hb.same (hW'.lt x (by simpa using hx))) (fun x hx=>hsp x (by simpa using hx))
  ·intro sp _
   rw[aec,e3,hv]
   rfl
  ·exact ok_one hres rfl (by simp[Value.okWide,htb,Cell.okWide,Cell.ok])
theorem Pm {H:Type} {enc:TypeId×Value->H} {C:Checked} {os:Os} {T:Nat->Option Ty} {f:FuncId} {fn:Func} {s:ChangeSpec} {conds:List PathCond} {apart fresh handsOn again:Bool} {tb n:Nat}
  (hT:jn C.prog T) (own:ownKnob C.prog.godebug=none) (started:os.Started) (noInit:C.prog.inits.idxOf? f=none) (hfn:C.prog.funcs[f]? = some fn)
  (witness:∃(w:World) (tape:Tape) (i:Input),w.os=os∧(w.forCall tape i).Shaped C.prog∧i.vars=[]∧Input.okWide C.prog (w.forCall tape i) .any w.heap.size f i ∧
   s.pre6 enc C.prog fn conds apart (w.forCall tape i).memory i.args∧({} : Assume).holds C.prog (lone (Frame.enter C.prog f i.args .normal) [] (w.forCall tape i)))
  (hl:laidOutB C.prog=true) (hr:(fn.params.toList.all fun t=>C.prog.readableRec t&&decide (t<C.prog.types.size)&&To T n t)=true)
  (hres:fn.resultTypes = #[tb]) (htb:C.prog.underlying tb=some .bool) (hv:s.vars=[])
  (hs:∀ds:List (DataW H),ds.length=fn.params.toList.length->(s.fn H ds).results=[.lit (.bool true)]∧(s.fn H ds).args=ds∧(s.fn H ds).vars=[])
  (law:∀ar:List D,ar.length=fn.params.toList.length->(∀(j:Nat) t,fn.params.toList[j]? = some t->∃x,ar[j]? = some x∧sk T n t x)->NC C.prog f ar (.bool true)) (hno:Wm=none:=by rfl) :
  ReturnsInHanded {} C os f .any (s.pre6 enc C.prog fn conds apart) (s.post enc C.prog fn apart fresh handsOn again):=by
 refine returnsInHanded_of_change_sized own started noInit hfn witness ?_
 intro W base args ds gs before hval hW _ hsz _
 exact VY hT hl hr hres htb hv hs law hval hW hsz (fun b hb=>by rw[hno]at hb;cases hb)
end Go.Proofs.Ytchndpjlijbplaa.Am
namespace Go.Proofs.Ytchndpjlijbplaa.Am
open Go.RowKit
set_option linter.unusedSimpArgs false
set_option linter.unusedVariables false
theorem Z3 {T:Nat->Option Ty} {n t:Nat} {ar:List D} (h:ar.length=[t].length) (hs:∀(j:Nat) u,[t][j]? = some u->∃x,ar[j]? = some x∧sk T n u x):∃a,ar=[a]∧sk T n t a:=by
 match ar,h with
 | [a],_=>obtain⟨x,h1,h2⟩:=hs 0 t rfl;cases h1;exact⟨a,rfl,h2⟩
theorem Z4 {T:Nat->Option Ty} {n t:Nat} {ts:List Nat} {ar:List D} (h:ar.length=(t::ts).length) (hs:∀(j:Nat) u,(t::ts)[j]? = some u->∃x,ar[j]? = some x∧sk T n u x) :
  ∃a acg,ar=a::acg∧sk T n t a∧acg.length=ts.length∧∀(j:Nat) u,ts[j]? = some u->∃x,acg[j]? = some x∧sk T n u x:=by
 match ar,h with
 | a::acg,h =>
  obtain⟨x,h1,h2⟩:=hs 0 t rfl
  cases h1
  exact⟨a,acg,rfl,h2,by simpa using h,fun j u hu=>by simpa using hs (j+1) u (by simpa using hu)⟩
section
variable {T:Nat->Option Ty} {n t:Nat} {τ:Ty} {d:D}
theorem NX {fs:List (Nat×Nat)} (h:sk T n t d) (hτ:T t=some τ) (hd:τ.ds=.struct fs):∃xs,d=.agg xs∧DB T n t xs:=by
 simp only[sk,hτ,hd,Ds.oe,if_true]at h
 exact h
theorem Sp {e:Nat} (h:sk T n t d) (hτ:T t=some τ) (hd:τ.ds=.slice e):DB T n t [d]:=by
 simp only[sk,hτ,hd,Ds.oe,acX,if_false]at h
 exact h
theorem X2 {k:IntKind} {xs:List D} (h:DB T (n+1) t xs) (hτ:T t=some τ) (hd:τ.ds=.int k):∃i,xs=[.int k i]∧(Lit.int k i).wf=true:=by
 simp only[DB,hτ,hd]at h
 exact h.2
theorem TE {e:Nat} {φ:Ty} {xs:List D} (h:DB T (n+1) t xs) (hτ:T t=some τ) (hd:τ.ds=.slice e) (hφ:T e=some φ) :
  ∃len ys,xs=[.sl false false len ys]∧len*φ.bytes<=140737488351232∧ys.length=len*φ.size∧∀i,i<len->DB T n e ((ys.drop (i*φ.size)).take φ.size):=by
 simp only[DB,hτ,hd]at h
 obtain⟨_,len,ys,ψ,h1,h3,h4,h5,h6⟩:=h
 rw[hφ]at h4
 cases h4
 exact⟨len,ys,h1,h3,h5,h6⟩
theorem PN {fs:List (Nat×Nat)} {xs:List D} (h:DB T (n+1) t xs) (hτ:T t=some τ) (hd:τ.ds=.struct fs):xs.length=τ.size∧∀f∈fs,∃φ,T f.1=some φ∧DB T n f.1 ((xs.drop f.2).take φ.size):=by
 simp only[DB,hτ,hd]at h
 exact h
end
end Go.Proofs.Ytchndpjlijbplaa.Am
namespace Go.Proofs.Ytchndpjlijbplaa.Am
open Go.RowKit Go.Proofs.Ytchndpjlijbplaa.P
set_option linter.unusedSimpArgs false
set_option linter.unusedVariables false
def Nz {α:Type} (T:Nat->Option Ty) (n t:Nat) (E:gY α) (ok:α->Prop):Prop:=(∃φ,T t=some φ∧φ.size=E.size)∧∀xs,DB T n t xs->∃x,xs=E.cells x∧ok x
section
variable {T:Nat->Option Ty} {n t:Nat} {τ:Ty}
theorem opI {k:IntKind} (hτ:T t=some τ) (hd:τ.ds=.int k) (hs:τ.size=1):Nz T (n+1) t (eI k) (fun i=>(Lit.int k i).wf=true):=⟨⟨τ,hτ,hs⟩,fun _ h=>X2 h hτ hd⟩
theorem YQ {α:Type} (E:gY α) (ok:α->Prop):∀(len:Nat) (ys:List D),ys.length=len*E.size->(∀i,i<len->∃x,(ys.drop (i*E.size)).take E.size=E.cells x∧ok x)->∃l:List α,l.length=len∧ys=ae E l∧∀x∈l,ok x
 | 0,ys,hl,_=>⟨[],rfl,by simpa [ae] using hl,fun x hx=>by simp at hx⟩
 | len+1,ys,hl,h=>by
  obtain⟨x,hx,hok⟩:=h 0 (by omega)
  obtain⟨l,h1,h2,h3⟩:=YQ E ok len (ys.drop E.size) (by rw[acH,hl,adk];omega) (fun i hi=>by
   obtain⟨y,hy,hy2⟩:=h (i+1) (by omega)
   refine⟨y,?_,hy2⟩
   rw[ad8]
   rw[adk,Nat.add_comm]at hy
   exact hy)
  rw[aea,adI]at hx
  refine⟨x::l,by simp[h1],?_,fun y hy =>?_⟩
  ·rw[aJ,<- h2,<- hx,ad9]
  ·rcases acu.1 hy with rfl|hy
   ·exact hok
   ·exact h3 y hy
theorem ZD {α:Type} {E:gY α} {ok:α->Prop} {e:Nat} (hτ:T t=some τ) (hd:τ.ds=.slice e) (hs:τ.size=1) {B:Nat} (hB:(T e).map (·.bytes)=some B) (he:Nz T n e E ok):Nz T (n+1) t (NA E) (fun l=>l.length*B<=140737488351232∧∀x∈l,ok x):=by
 obtain⟨⟨φ,hφ,hz⟩,hx⟩:=he
 have hb:φ.bytes=B:=by rw[hφ]at hB;simpa using hB
 refine⟨⟨τ,hτ,hs⟩,fun xs h =>?_⟩
 obtain⟨len,ys,h1,h2,h3,h4⟩:=TE h hτ hd hφ
 rw[hz]at h3 h4
 rw[hb]at h2
 obtain⟨l,k1,k2,k3⟩:=YQ E ok len ys h3 fun i hi=>hx _ (h4 i hi)
 subst k1 k2
 exact⟨l,h1,h2,k3⟩
def OpF {α:Type} (T:Nat->Option Ty) (n:Nat) (fs:List (Nat×Nat)) (o:Nat) (E:gY α) (ok:α->Prop):Prop :=
 ∀xs:List D,xs.length=o+E.size->(∀f∈fs,∃φ,T f.1=some φ∧DB T n f.1 ((xs.drop f.2).take φ.size))->∃x,xs.drop o=E.cells x∧ok x
theorem XN {α:Type} {E:gY α} {ok:α->Prop} {ft o:Nat} (h:Nz T n ft E ok):OpF T n [(ft,o)] o E ok:=by
 obtain⟨⟨φ,hφ,hz⟩,hx⟩:=h
 intro xs hl hf
 obtain⟨ψ,h1,h2⟩:=hf (ft,o) (by simp)
 cases hφ.symm.trans h1
 rw[adH (by rw[acH];omega)]at h2
 exact hx _ h2
theorem VP {α β:Type} {E:gY α} {ok:α->Prop} {E':gY β} {ok':β->Prop} {ft o o':Nat} {fs:List (Nat×Nat)} (h:Nz T n ft E ok) (ho:o'=o+E.size) (h':OpF T n fs o' E' ok'):OpF T n ((ft,o)::fs) o (wR E E') (fun x=>ok x.1∧ok' x.2):=by
 subst ho
 obtain⟨⟨φ,hφ,hz⟩,hx⟩:=h
 intro xs hl hf
 obtain⟨ψ,h1,h2⟩:=hf (ft,o) (by simp)
 cases hφ.symm.trans h1
 obtain⟨x,hx1,hx2⟩:=hx _ h2
 obtain⟨y,hy1,hy2⟩:=h' xs (by rw[hl];show o+(E.size+E'.size)=_;omega) fun f hf'=>hf f (adP _ hf')
 refine⟨(x,y),?_,hx2,hy2⟩
 show xs.drop o=E.cells x++E'.cells y
 rw[<- hx1,<- hy1,<- hz,<- ad8,ad9]
theorem opS {α β:Type} {E:gY β} {ok:β->Prop} {f:α->β} {hf:∀x y,f x=f y->x=y} {g:β->α} {fs:List (Nat×Nat)} (hτ:T t=some τ) (hd:τ.ds=.struct fs) (hs:τ.size=E.size) (hg:∀y,f (g y)=y) (h:OpF T n fs 0 E ok):Nz T (n+1) t (Kb E f hf) (fun x=>ok (f x)):=by
 refine⟨⟨τ,hτ,hs⟩,fun xs hx =>?_⟩
 obtain⟨h1,h2⟩:=PN hx hτ hd
 obtain⟨y,h3,h4⟩:=h xs (by rw[h1,hs,ada]) h2
 refine⟨g y,?_,?_⟩
 ·show xs=E.cells (f (g y))
  rw[hg,<- h3,adI]
 ·show ok (f (g y))
  rw[hg];exact h4
def OpA {α:Type} (T:Nat->Option Ty) (n t:Nat) (A:Arg α) (ok:α->Prop):Prop:=∀d,sk T n t d->∃x,d=A.d x∧ok x
theorem aam {α:Type} {E:gY α} {ok:List α->Prop} {e:Nat} (hτ:T t=some τ) (hd:τ.ds=.slice e) (hE:Nz T n t (NA E) ok):OpA T n t (mB E) ok:=fun d h=>by
 obtain⟨x,h1,h2⟩:=hE.2 _ (Sp h hτ hd)
 simp only[yk,acL,and_true]at h1
 exact⟨x,h1,h2⟩
theorem oaS {α:Type} {E:gY α} {ok:α->Prop} {fs:List (Nat×Nat)} (hτ:T t=some τ) (hd:τ.ds=.struct fs) (hE:Nz T n t E ok):OpA T n t (cW E) ok:=fun d h=>by
 obtain⟨xs,rfl,h1⟩:=NX h hτ hd
 obtain⟨x,h1,h2⟩:=hE.2 _ h1
 exact⟨x,by rw[h1];rfl,h2⟩
def TX {α:Type} (T:Nat->Option Ty) (n:Nat) (ts:List Nat) (A:kT α) (ok:α->Prop):Prop:=∀ar:List D,ar.length=ts.length->(∀(j:Nat) u,ts[j]? = some u->∃x,ar[j]? = some x∧sk T n u x)->∃x,ar=A.ds x∧ok x
theorem abF {α:Type} {A:Arg α} {ok:α->Prop} (h:OpA T n t A ok):TX T n [t] (fP A) ok:=fun ar hl hs=>by
 obtain⟨a,rfl,ha⟩:=Z3 hl hs
 obtain⟨x,rfl,hx⟩:=h a ha
 exact⟨x,rfl,hx⟩
theorem ZB {α β:Type} {A:Arg α} {ok:α->Prop} {B:kT β} {ok':β->Prop} {ts:List Nat} (h:OpA T n t A ok) (h':TX T n ts B ok'):TX T n (t::ts) (iQ A B) (fun x=>ok x.1∧ok' x.2):=fun ar hl hs=>by
 obtain⟨a,ar,rfl,ha,hl',hs'⟩:=Z4 hl hs
 obtain⟨x,rfl,hx⟩:=h a ha
 obtain⟨y,rfl,hy⟩:=h' ar hl' hs'
 exact⟨(x,y),rfl,hx,hy⟩
theorem Zt {P:Program} {f:FuncId} {α:Type} {A:kT α} {F:α->Option Bool} {ok:α->Prop} {ts:List Nat} (ho:TX T n ts A ok) (hG:bY P f (gf A F (fun r =>.clean (.bool r)))) (h:∀x,ok x->F x=some true) (ar:List D) (hl:ar.length=ts.length)
  (hs:∀(j:Nat) u,ts[j]? = some u->∃x,ar[j]? = some x∧sk T n u x):NC P f ar (.bool true):=by
 obtain⟨x,rfl,hx⟩:=ho ar hl hs
 refine hG.calls none _ _ none ?_
 rw[aW,h x hx]
 rfl
end
def BE {α:Type} (e:gY α):gY (List α):=⟨fun l=>[.nx l.length (ae e l)],1,fun _=>rfl,by decide,fun x y h=>by
 simp only[acL,D.nx.injEq,and_true]at h
 exact sV e _ _ h.2⟩
theorem tY {α:Type} (e:gY α) (l:List α):(BE e).cells l=[.nx l.length (ae e l)]:=ae2
theorem sS {α:Type} (e:gY α):(BE e).size=1:=ae2
section
variable {α:Type} (E:gY α) {l:List α} {i:Int} {x x':α}
theorem It (cs:List D) (o:Nat) (d:D) (h:o<cs.length):(putCells cs o [d]).length=cs.length:=by
 simp[putCells];omega
theorem Iu (cs:List D) (o:Nat) (d d':D) (h:o<cs.length):putCells (putCells cs o [d]) o [d']=putCells cs o [d']:=by
 unfold putCells
 have h1:(cs.take o).length=o:=by simp;omega
 have h2:(cs.take o++[d]++cs.drop (o+[d].length)).take o=cs.take o:=by
  rw[adC,adG (by omega),adH (by omega)]
 have h3:(cs.take o++[d]++cs.drop (o+[d].length)).drop (o+[d'].length)=cs.drop (o+[d'].length):=by
  rw[adD (by simp;omega),ad6 (by simp;omega),ad3]
  rfl
 rw[h2,h3]
theorem Ih (fo:Nat) (h:P.idx l i=some x) (hfo:fo+1<=E.size):i.toNat*E.size+fo<(ae E l).length:=by
 have:=jx E h
 rw[bH]
 omega
theorem MI (fo:Nat) (d d':D) (h:P.idx l i=some x) (hc:E.cells x'=putCells (E.cells x) fo [d']) (hfo:fo+1<=E.size):putCells (putCells (ae E l) (i.toNat*E.size+fo) [d]) (i.toNat*E.size+fo) [d']=ae E (l.set i.toNat x'):=by
 rw[Iu _ _ _ _ (Ih E fo h hfo)]
 exact eO E fo [d'] h hc hfo
theorem RD (fo:Nat) (d:D) (h:P.idx l i=some x) (hfo:fo+1<=E.size):i.toNat*E.size+fo+1<=(putCells (ae E l) (i.toNat*E.size+fo) [d]).length:=by
 rw[It _ _ _ (Ih E fo h hfo)]
 exact Ih E fo h hfo
end
theorem GR {t s nv n o:Nat} {fz:Bool} {cs xs cs':List D} : yG t s nv fz cs o (some ⟨nv,t,cs',fz,true,false⟩) (some (.nx n xs))=[.nr t s nv (putCells cs o [.nx n cs'])]:=by
 simp[yG,Gl]
theorem GQ {t s nv n o:Nat} {fz:Bool} {cs xs:List D} : yG t s nv fz cs o none (some (.nx n xs))=[.nr t s nv (putCells cs o [.und])]:=ae2
theorem Rr {α:Type} {E:gY α} {T:Nat->Option Ty} {el B ty' s f:Nat} {φ:Ty} {k:IntKind} {n:Int} {z:α} {m:List α} (hφ:T el=some φ) (hz:tI φ f=E.cells z) (hs:φ.size=E.size) (hd:(φ.zero.map mY).all eY=true) (hl:φ.zero.length=φ.size) (hn:ZA ((φ.zero.map mY).drop f).head? = true) (hB:φ.bytes=B) (h:D0 B n n z=some m)
  : ∀(b c:Nat) (z0:List Value) (q:Bool) (e d:Nat),d<1000000->mT T ⟨.slice el,b,c,z0,q⟩ e d ty' s f (.int k n) (.int k n)=some ⟨.buf d e φ.size 0 m.length,[(d,some ⟨e,el,[.nr ty' s (4*e+2) (ae E m)],false,true,true⟩)]⟩:=by
 intro b c z0 q e d hdp
 obtain⟨h1,h2,h3,h4,h5⟩:=mk_one E h
 have hnat:mN (.int k n)=some n.toNat:=by simp[mN,h1]
 have hpos:=E.pos
 unfold mT
 simp only[hφ,hnat]
 rw[if_pos ⟨acm _,by rw[h2];exact h3,by rw[h2,hB];exact h5,by omega,hd,hl,by rw[cJ];exact hdp,hn⟩,hz,h2,h4]
theorem EW {k:IntKind} {n:Int} : eY (.int k n)=true:=ae2
theorem Bl {b:Bool} : eY (.bool b)=true:=ae2
theorem EX {b:ByteArray} : eY (.str b)=true:=ae2
theorem JQ {a b:Bool} {n:Nat} {xs:List D} : eY (.sl a b n xs)=true:=ae2
noncomputable def dg {α β:Type} (A:kT α) (F:α->Option β) (R:β->Nat×Nat×Nat×Nat×Nat×List D):List D->Option (Nat×Nat×Nat×Nat×Nat×List D):=fun ds=>open Classical in if h:∃a,A.ds a=ds then (F (Classical.choose h)).map R else none
theorem Zx {α β:Type} (A:kT α) (F:α->Option β) (R:β->Nat×Nat×Nat×Nat×Nat×List D) (a:α):dg A F R (A.ds a)=(F a).map R:=by
 have h:∃b,A.ds b=A.ds a:=⟨a,rfl⟩
 simp only[dg]
 rw[dif_pos h,A.inj _ _ (Classical.choose_spec h)]
theorem VC {α β:Type} {A:kT α} {F:α->Option β} {R:β->Nat×Nat×Nat×Nat×Nat×List D} {ds:List D} {q:Nat×Nat×Nat×Nat×Nat×List D} (h:dg A F R ds=some q):∃a r,ds=A.ds a∧F a=some r∧q=R r:=by
 unfold dg at h
 split at h
 ·rename_i he
  rw[acj]at h
  obtain⟨r,h1,h2⟩:=h
  exact⟨_,r,(Classical.choose_spec he).symm,h1,h2.symm⟩
 ·cases h
structure FOk (P:Program) (f:FuncId) (p:List D->Option (Nat×Nat×Nat×Nat×Nat×List D)):Prop where
 callable:dh P f
 calls:∀args ty t s S n cs,p args=some (ty,t,s,S,n,cs)->Hm P f args ty t s S n cs
theorem FOk.of {P:Program} {T:Nat->Option Ty} {Γ:Env} (hT:jn P T) (hΓ:bD P Γ) (hm:P.follows .mixedOrders=true) {α β:Type} {A:kT α} {F:α->Option β} {R:β->Nat×Nat×Nat×Nat×Nat×List D} {f:FuncId} {fn:Func} (hf:P.funcs[f]? = some fn) (hok:(match fn.body with|some c=>codeOk c|none=>true)=true)
  (hc:(fn.name == "runtime.NumGoroutine")=false∧fn.body.isNone=false) (hn:∀a,(A.ds a).length<=fn.ntmps) (h:∀a r,F a=some r->rG T Γ FU fn (A.ds a)=some (R r)):FOk P f (dg A F R) where
 callable:=⟨fn,hf,hc⟩
 calls args ty t s S n cs hg:=by
  obtain⟨a,r,rfl,hr,he⟩:=VC hg
  exact IM hT hΓ hm hf hok (hn a) ((h a r hr).trans (by rw[he]))
theorem Nu {α:Type} {E EN:gY α} (h:∀x,(EN.cells x).map Dx=E.cells x):∀l:List α,(ae EN l).map Dx=ae E l
 | []=>rfl
 | x::l=>by rw[aJ,aJ,adL,h x,Nu h l]
theorem Gh {α:Type} {EN:gY α} {s:Nat} (h:∀x,(EN.cells x).all (uX s)=true):∀l:List α,(ae EN l).all (uX s)=true
 | []=>rfl
 | x::l=>by rw[aJ,List.all_append,h x,Gh h l];rfl
theorem bY.ofW {P:Program} {T:Nat->Option Ty} {Γ:Env} (hT:jn P T) (hΓ:bD P Γ) (hm:P.follows .mixedOrders=true) {α γ:Type} {A:kT α} {F:α->Option (List γ)} {E EN:gY γ} {ty t s:Nat} {f:FuncId} {fn:Func} (hf:P.funcs[f]? = some fn) (hok:(match fn.body with|some c=>codeOk c|none=>true)=true)
  (hc:(fn.name == "runtime.NumGoroutine")=false∧fn.body.isNone=false) (hn:∀a,(A.ds a).length<=fn.ntmps) (hs:EN.size=E.size) (hu:∀x,(EN.cells x).map Dx=E.cells x) (ho:∀x,(EN.cells x).all (uX s)=true)
  (h:∀a r,F a=some r->rG T Γ FU fn (A.ds a)=some (ty,t,s,E.size,r.length,ae EN r)):bY P f (gf A F fun r =>.clean (.sl false false r.length (ae E r))) where
 calls lent acg rk out hg:=by
  obtain⟨rfl,rfl,a,r,rfl,hr,rfl⟩:=xd hg
  refine IP (F:=FU) hT hΓ hm hf hok (hn a) ?_
  unfold PS U4
  rw[h a r hr]
  simp only
  have hl:(ae EN r).length=r.length*E.size:=by rw[bH,hs]
  rw[if_pos ⟨by rw[hl];exact acm _,Gh ho r⟩,Nu hu r,adH (by rw[bH];exact acm _)]
 callable:=⟨fn,hf,hc⟩
noncomputable def D1 {α β γ:Type} (ty t s:Nat) (EN:gY γ) (A:kT α) (F:γ->α->Option (γ×β)) (R:β->D):Nat->Nat->Nat->Nat->List D->List D->Option (D×List D):=fun ty' t' s' o cs args =>
 open Classical in if h:∃p:List D×List D×γ×α,ty'=ty∧t'=t∧s'=s∧cs=p.1++(EN.cells p.2.2.1++p.2.1)∧o=p.1.length∧args=A.ds p.2.2.2 then
  (F (Classical.choose h).2.2.1 (Classical.choose h).2.2.2).map fun r=>(R r.2,(Classical.choose h).1++(EN.cells r.1++(Classical.choose h).2.1)) else none
theorem Ic {α β γ:Type} (ty t s:Nat) (EN:gY γ) (A:kT α) (F:γ->α->Option (γ×β)) (R:β->D) (pre post:List D) (x:γ) (a:α) :
  D1 ty t s EN A F R ty t s pre.length (pre++(EN.cells x++post)) (A.ds a)=(F x a).map fun r=>(R r.2,pre++(EN.cells r.1++post)):=by
 have h:∃p:List D×List D×γ×α,ty=ty∧t=t∧s=s∧pre++(EN.cells x++post)=p.1++(EN.cells p.2.2.1++p.2.1)∧pre.length=p.1.length∧A.ds a=A.ds p.2.2.2:=⟨(pre,post,x,a),rfl,rfl,rfl,rfl,rfl,rfl⟩
 obtain⟨_,_,_,h1,h2,h3⟩:=Classical.choose_spec h
 obtain⟨e1,e2⟩:=aeg h1 h2
 obtain⟨e3,e4⟩:=aeg e2 (by rw[EN.len,EN.len])
 unfold D1
 rw[dif_pos h,<- e1,<- e4,<- EN.inj _ _ e3,<- A.inj _ _ h3]
theorem Tj {α β γ:Type} {ty t s:Nat} {EN:gY γ} {A:kT α} {F:γ->α->Option (γ×β)} {R:β->D} {ty' t' s' o:Nat} {cs args:List D} {d:D} {cs':List D} (h:D1 ty t s EN A F R ty' t' s' o cs args=some (d,cs')) :
  ty'=ty∧t'=t∧s'=s∧∃pre post x a r,cs=pre++(EN.cells x++post)∧o=pre.length∧args=A.ds a∧F x a=some r∧d=R r.2∧cs'=pre++(EN.cells r.1++post):=by
 unfold D1 at h
 split at h
 ·rename_i he
  obtain⟨h1,h2,h3,h4,h5,h6⟩:=Classical.choose_spec he
  rw[acj]at h
  obtain⟨r,k1,k2⟩:=h
  simp only[Prod.mk.injEq]at k2
  exact⟨h1,h2,h3,_,_,_,_,r,h4,h5,h6,k1,k2.1.symm,k2.2.symm⟩
 ·cases h
structure W3 (P:Program) (f:FuncId) (p:Nat->Nat->Nat->Nat->List D->List D->Option (D×List D)):Prop where
 callable:dh P f
 calls:∀ty t s o cs args d cs',p ty t s o cs args=some (d,cs')->Hn P f ty t s o cs args d cs'
theorem W3.of {P:Program} {T:Nat->Option Ty} {Γ:Env} (hT:jn P T) (hΓ:bD P Γ) (hm:P.follows .mixedOrders=true) {α β γ:Type} {ty t s:Nat} {EN:gY γ} {A:kT α} {F:γ->α->Option (γ×β)} {R:β->D} {f:FuncId} {fn:Func} (hf:P.funcs[f]? = some fn) (hok:(match fn.body with|some c=>codeOk c|none=>true)=true)
  (hc:(fn.name == "runtime.NumGoroutine")=false∧fn.body.isNone=false) (hn:∀a,(A.ds a).length+1<=fn.ntmps) (h:∀pre post x a x' r,F x a=some (x',r)->rH T Γ FU fn ty t s pre.length (pre++(EN.cells x++post)) (A.ds a)=some (R r,pre++(EN.cells x'++post))):W3 P f (D1 ty t s EN A F R) where
 callable:=⟨fn,hf,hc⟩
 calls ty' t' s' o cs args d cs' hg:=by
  obtain⟨rfl,rfl,rfl,pre,post,x,a,r,rfl,rfl,rfl,hr,rfl,rfl⟩:=Tj hg
  exact IN hT hΓ hm hf hok (hn a) (h pre post x a r.1 r.2 hr)
theorem MF {α:Type} {x:Bool×α} {q:α} (h:ME x=some q):x=(false,q):=by
 obtain⟨b,y⟩:=x
 cases b
 ·cases h;rfl
 ·cases h
theorem M9 {α:Type} {x:Bool×α} {q:α} (h:M8 x=some q):x=(true,q):=by
 obtain⟨b,y⟩:=x
 cases b
 ·cases h
 ·cases h;rfl
def Z7 {α:Type} (E EN:gY α) (hs:EN.size=E.size) (hd:∀x y,E.cells x≠EN.cells y):gY (Bool×α):=⟨fun p=>match p.1 with|true=>E.cells p.2|false=>EN.cells p.2,E.size,fun p=>by
  obtain⟨b,x⟩:=p
  cases b
  ·exact (EN.len x).trans hs
  ·exact E.len x,E.pos,fun p q h=>by
  obtain⟨b,x⟩:=p
  obtain⟨c,y⟩:=q
  cases b<;>cases c
  ·exact congrArg (Prod.mk false) (EN.inj x y h)
  ·exact absurd h.symm (hd _ _)
  ·exact absurd h (hd _ _)
  ·exact congrArg (Prod.mk true) (E.inj x y h)⟩
theorem FB {α:Type} {EN:gY α} {EF:gY (Bool×α)} (hF:∀x,EF.cells (false,x)=EN.cells x):∀l:List α,ae EN l=ae EF (FA l)
 | []=>rfl
 | x::l=>by
  have ih:=FB hF l
  rw[aJ,ih,<- hF x]
  rfl
theorem FC {α:Type} {l:List α} : (FA l).length=l.length:=acR ..
theorem BQ {γ:Type} {E:gY γ} {C:List γ} {i:Int} {x:γ} (h:P.idx C i=some x) (y:γ):ae E (C.set i.toNat y)=ae E (C.take i.toNat)++(E.cells y++ae E (C.drop (i.toNat+1)))∧(ae E (C.take i.toNat)).length=i.toNat*E.size:=by
 have hb:=od h
 refine⟨?_,by rw[bH,acG];congr 1;omega⟩
 rw[Po E C i.toNat x (HV h) y,<- dY,adC]
 congr 2
 have:i.toNat*E.size+E.size=(i.toNat+1)*E.size:=by rw[adk]
 rw[this,nE]
theorem U1 {γ:Type} {E:gY γ} {C:List γ} {i:Int} {x:γ} (h:P.idx C i=some x):ae E C=ae E (C.take i.toNat)++(E.cells x++ae E (C.drop (i.toNat+1))):=by
 have h1:=(BQ (E:=E) h x).1
 have h2:C.set i.toNat x=C:=by
  obtain⟨hlt,he⟩:=acQ.1 (HV h)
  rw[<- he,List.set_getElem_self]
 rwa [h2]at h1
theorem Rq {α β γ:Type} {ty t s:Nat} {EN:gY γ} {EF:gY (Bool×γ)} (hF:∀x,EF.cells (false,x)=EN.cells x) {A:kT α} {F:γ->α->Option (γ×β)} {R:β->D} {C:List (Bool×γ)} {i:Int} {q:γ} (h:P.idx C i=some (false,q)) (a:α) :
  D1 ty t s EN A F R ty t s (i.toNat*EF.size) (ae EF C) (A.ds a)=(F q a).map fun r=>(R r.2,ae EF (C.set i.toNat (false,r.1))):=by
 have h1:=U1 (E:=EF) h
 have h2:=(BQ (E:=EF) h (false,q)).2
 rw[h1,<- h2,hF,Ic]
 congr 1
 funext r
 rw[(BQ (E:=EF) h (false,r.1)).1,hF]
theorem WS {K:Nat} (pre cs post:List D) (hK:cs.length=K):pW K pre.length (pre++(cs++post))=pre++(cs.map Dx++post):=by
 apply aeo
 intro j
 rw[rI]
 by_cases h1:j<pre.length
 ·rw[ac1 (l₁:=pre) h1,ac1 (l₁:=pre) h1,acA h1]
  simp only[Option.map_some]
  rw[if_neg (by omega)]
 ·rw[ac2 (l₁:=pre) (by omega),ac2 (l₁:=pre) (by omega)]
  by_cases h2:j-pre.length<cs.length
  ·rw[ac1 (l₁:=cs) h2,ac1 (l₁:=cs.map Dx) (by rw[acR];exact h2),aci,acA h2]
   simp only[Option.map_some]
   rw[if_pos (by omega)]
  ·rw[ac2 (l₁:=cs) (by omega),ac2 (l₁:=cs.map Dx) (by rw[acR];omega),acR]
   cases post[j-pre.length-cs.length]? with
   | none=>rfl
   | some d =>
    simp only[Option.map_some]
    rw[if_neg (by omega)]
theorem aaa {γ:Type} {s:Nat} {E EN:gY γ} {EF:gY (Bool×γ)} (hF:∀x,EF.cells (false,x)=EN.cells x) (hT:∀x,EF.cells (true,x)=E.cells x) (hu:∀x,(EN.cells x).map Dx=E.cells x) (ho:∀x,(EN.cells x).all (uX s)=true) {C:List (Bool×γ)} {i:Int} {x:Bool×γ} (h:P.idx C i=some x) (q:γ) :
  (((ae EF (C.set i.toNat (false,q))).drop (i.toNat*EF.size)).take EF.size).all (uX s)=true∧pW EF.size (i.toNat*EF.size) (ae EF (C.set i.toNat (false,q)))=ae EF (C.set i.toNat (true,q)):=by
 obtain⟨h1,h2⟩:=BQ (E:=EF) h (false,q)
 have h3:=EF.len (false,q)
 have hb:=od h
 refine⟨?_,?_⟩
 ·rw[h1,<- h2,List.drop_left' rfl,adG (by omega),adH (by omega),hF]
  exact ho q
 ·rw[(BQ (E:=EF) h (true,q)).1,h1,<- h2,WS _ _ _ h3,hF,hu,hT]
section
variable {pre l:List D} {k m:Nat}
theorem WN:(pre++l).take (pre.length+k)=pre++l.take k:=List.take_length_add_append ..
theorem Se:(pre++l).take pre.length=pre:=List.take_left' rfl
theorem N8:(pre++l).drop (pre.length+k)=l.drop k:=List.drop_length_add_append ..
theorem QM:(pre++l).drop pre.length=l:=List.drop_left' rfl
theorem QN:(pre++l).drop (pre.length+k+m)=l.drop (k+m):=by rw[acI,N8]
theorem OE:(pre.length+k<=(pre++l).length)=(k<=l.length):=by rw[adq];exact propext ⟨fun h=>by omega,fun h=>by omega⟩
theorem Rk:(pre.length+k+m<=(pre++l).length)=(k+m<=l.length):=by rw[acI,OE]
end
theorem Mg {ty t s nv:Nat} {cs:List D} : gg ty t s nv cs=⟨0,ty,[.nr t s nv cs],false,true,true⟩:=ae2
theorem YX:type_of% (ai @Mg<|ai @WN<|ai @Se<|ai @N8<|ai @QM<|ai @QN<|ai @OE<|ai @Rk<|@adC):=⟨@Mg,@WN,@Se,@N8,@QM,@QN,@OE,@Rk,@adC⟩
theorem Lp {τ:Ty} {h:Nat->Option Row} {x v o:Nat} : mX τ h x v o none=none:=ae2
theorem Q9 {d:D} {l:List D} : (d::l).head? = some d:=ae2
theorem RH {r:Row} {f:Row->Option Row} : (some r).bind f=f r:=ae2
theorem RG {f:Row->Option Row} : (none:Option Row).bind f=none:=ae2
theorem JG {x o:Nat} : ZV x o none=none:=ae2
theorem Jb {q:Option (List D×List Nat)} : caC none q=none:=ae2
theorem Ey {Γ:Env} {h:Nat->Option Row} {e g:Nat} {dst:Option Nat} : Uk Γ h e dst g none=none:=ae2
theorem WT {o:Nat} {cs:List D} : pW 0 o cs=cs:=Hl o cs
theorem X9 {x o n:Nat} (h:n<1000000):(NK x o=n)=False:=by
 have:=fI x o
 have:=cJ
 exact propext ⟨fun e=>by omega,fun e=>e.elim⟩
theorem TW {x o n:Nat} (h:n<1000000):(n=NK x o)=False:=by
 have:=fI x o
 have:=cJ
 exact propext ⟨fun e=>by omega,fun e=>e.elim⟩
theorem zw {g:Nat} : a6.lends g=false:=ae2
theorem Gb {g:Nat} {l:Option (D×Row)} {acg:List D} : a6.sem g l acg=none:=ae2
theorem A3 {Γ:Env} {h:Nat->Option Row} {e g:Nat} {dst:Option Nat} {args:List D} {b:Bool} (hb:b=false) (hs:∀acg,Γ.sem g none acg=none):A2 b Γ h e dst g args=none:=by
 subst hb
 rw[yh]
 simp only[Uk]
 cases bk h args with
 | none=>rfl
 | some q =>
  obtain⟨acg,fr⟩:=q
  simp only[hs]
  rfl
theorem YW:type_of% (ai @zw<|ai @Gb<|@A3):=⟨@zw,@Gb,@A3⟩
theorem vn:type_of% (ai @GQ<|ai @FC<|ai @GR<|ai @X9<|ai @TW<|ai @SR.eq_1<|ai @JG<|ai @Jb<|ai @Ey<|ai @WT<|ai @RH<|ai @RG<|ai @Lp<|ai @Q9<|ai @tY<|ai @EW<|ai @Bl<|ai @EX<|ai @JQ<|@sS):=⟨@GQ,@FC,@GR,@X9,@TW,@SR.eq_1,@JG,@Jb,@Ey,@WT,@RH,@RG,@Lp,@Q9,@tY,@EW,@Bl,@EX,@JQ,@sS⟩
end Go.Proofs.Ytchndpjlijbplaa.Am
namespace Go.Proofs.Ytchndpjlijbplaa.Am
open Go.RowKit Go.Proofs.Ytchndpjlijbplaa.P Go.Shelf Go.Lib
set_option linter.unusedSimpArgs false
set_option linter.unusedVariables false
section
variable {P:Program}
theorem rC (w:World) (dT sT ty elem:TypeId) (K b o dLen dCap:Nat) (a:Addr) (sLen sCap:Nat) (cs:List Value)
  (hu:P.underlying dT=some (.slice elem)) (hs:(P.info? elem).map (·.size)=some K) (hn:cs.length=Nat.min sLen dLen*K)
  (hsrc:∀j v,cs[j]? = some v->w.cell? (a.add j)=some v) (hc:∀j,j<cs.length->(w.cell? ⟨b,o+j,none⟩).isSome=true) (hf:∀j,j<cs.length->w.frozen? ⟨b,o+j,none⟩=false) (h1:∀v∈cs,v.oneCell'=true) :
  (Builtin.copy_ #[dT,sT] ty #[.slice (some ⟨b,o,none⟩) dLen dCap,.slice (some a) sLen sCap]).run P w=.ok (goInt (Nat.min sLen dLen)) (w.setCells b o cs):=by
 have hl:=run_loadCells_list (P:=P) w a cs hsrc
 have hst:=run_storeCells_cells (P:=P) b o cs 0 w (by simpa using hc) (by simpa using hf) h1
 cases hq:P.info? elem with
 | none=>simp[hq]at hs
 | some i =>
  have hi:i.size=K:=by simpa [hq] using hs
  simp[Builtin.copy_,run_underlying hu,Builtin.lenOf,Builtin.firstCells,sizeOf,typeInfo,hq,hi,<- hn,hl,hst]
theorem yO (w:World) {ops:Array Oper} {rest:List Oper} {o:Oper} {a:Act} {Q:Exit->Act->World->Prop} (hgd:o.guard=none) (s:Operand) (t:TypeId)
  (ho:o.op=.call { callee := .builtin .clear,args:=#[s],argTypes:=#[t] }) (v:Value) (hd:a.eval s=v) {v':Value} {w':World}
  (hr:(Builtin.clear_ #[t] o.type #[v]).run P w=.ok v' w') (h:wpList P ops Q rest (a.put o.dst v') w'):wpList P ops Q (o::rest) a w :=
 wpList_plain hgd fun _ hK=>by
  unfold Oper.wp execOp
  simp only[ho,resolve,invoke,builtin,acU,Sem.run_pure,Result.andThen_ok,List.map_toArray,acs,adb,hd,hr]
  exact hK _ _ h
theorem MX (w:World) (t e ty:TypeId) (z:Value) (ht:P.underlying t=some (.slice e)) (hv:∀w,(zeroValue e).run P w=.ok z w) (b o n c:Nat) (hn:0<n) (cs:List Value) (hcs:(Builtin.zeroCells z.cells n).toList=cs) (h1:∀v∈cs,v.oneCell'=true)
  (hc:∀j,j<cs.length->(w.cell? ⟨b,o+j,none⟩).isSome=true) (hf:∀j,j<cs.length->w.frozen? ⟨b,o+j,none⟩=false) :
  (Builtin.clear_ #[t] ty #[.slice (some ⟨b,o,none⟩) n c]).run P w=.ok (.tuple #[]) (w.setCells b o cs):=by
 have hst:=run_storeCells_cells (P:=P) b o cs 0 w (by simpa using hc) (by simpa using hf) h1
 simp only[Nat.add_zero]at hst
 obtain⟨m,rfl⟩:∃m,n=m+1:=⟨n-1,by omega⟩
 simp[Builtin.clear_,run_underlying ht,hv,hcs,hst]
end
theorem HW:(Try.prog.info? 74).map (fun i=>(i.zero,i.size,i.bytes))=some (some (Value.agg #[.int .i64 0,.int .i64 0,.slice none 0 0,.int .i64 0,.slice none 0 0]),5,72):=by kernel_rfl
theorem V4:(Try.prog.info? 74).map (·.size)=some 5:=by kernel_rfl
set_option maxHeartbeats 4000000 in
set_option maxRecDepth 100000 in
theorem JR (a:Option Addr) (n c i:Nat) (w:World) (hi:i<=n) (hn:n<=c) (hc:c<=9223372036854775807) (ha:a=none->c=0) :
  Calls Try.prog 70 #[.slice a n c,.int .i64 i,.int .i64 i] w fun e w'=>e=.returned (.slice a n c)∧w'=w:=by
 go_enter Try.func70,Try.ntmps70
 cases a with
 | none =>
  have:=ha rfl
  subst this
  obtain rfl:n=0:=by omega
  obtain rfl:i=0:=by omega
  go_wp2
  all_goals (go_ret;exact⟨rfl,rfl⟩)
 | some a =>
  obtain⟨ab,ao,asp⟩:=a
  go_wp2
  all_goals (go_ret;exact⟨rfl,rfl⟩)
def kS:Value := .agg #[.int .i64 0,.int .i64 0,.slice none 0 0,.int .i64 0,.slice none 0 0]
theorem z8:kS.cells = #[.int .i64 0,.int .i64 0,.slice none 0 0,.int .i64 0,.slice none 0 0]:=rfl
theorem mf (n:Nat):(Builtin.zeroCells kS.cells n).toList.length=n*5:=by
 simp[Builtin.zeroCells,z8]
theorem TK (n:Nat):∀v∈(Builtin.zeroCells kS.cells n).toList,v.oneCell'=true:=by
 intro v hv
 simp only[Builtin.zeroCells,z8,adh,ack]at hv
 obtain⟨i,_,rfl⟩:=hv
 have h5:i % 5<5:=Nat.mod_lt _ (by decide)
 simp only[adA,List.length_cons,List.length_nil,ada,Nat.reduceAdd]
 generalize i % 5=k at *
 match k,h5 with
 | 0,_=>rfl
 | 1,_=>rfl
 | 2,_=>rfl
 | 3,_=>rfl
 | 4,_=>rfl
set_option maxHeartbeats 4000000 in
set_option maxRecDepth 100000 in
theorem UH (b off n c i j:Nat) (cs:List Value) (w:World) (hl:cs.length=n*5) (hcs:∀k v,cs[k]? = some v->w.cell? ⟨b,off+k,none⟩=some v) (hfz:∀k,w.frozen? ⟨b,k,none⟩=false) (h1:∀v∈cs,v.oneCell'=true)
  (hnc:n<=c) (hc:c<=9223372036854775807) (hij:i<j) (hj:j<=n) :
  Calls Try.prog 70 #[.slice (some ⟨b,off,none⟩) n c,.int .i64 i,.int .i64 j] w fun e w'=>e=.returned (.slice (some ⟨b,off,none⟩) (i+(n-j)) c) ∧
   w'=(w.drew.setCells b (off+i*5) (cs.drop (j*5))).setCells b (off+(i+(n-j))*5) (Builtin.zeroCells kS.cells (n-(i+(n-j)))).toList:=by
 have t0:=Try.underlying67
 obtain⟨i0,hi0,hz0,hz1,hz2⟩:=info_parts HW
 have v0:∀w,(zeroValue 74).run Try.prog w=.ok kS w:=fun w=>by simp[zeroValue,typeInfo,hi0,hz0,kS]
 obtain⟨A,hA,hsrc⟩:∃A:Addr,(if c=j then some (⟨b,off,none⟩:Addr) else some ⟨b,off+j*5,none⟩)=some A∧Hid (∀t u,(cs.drop (j*5))[t]? = some u->w.drew.cell? (A.add t)=some u):=by
  by_cases h:c=j
  ·refine⟨⟨b,off,none⟩,by simp[h],fun t u hu =>?_⟩
   have h0:(cs.drop (j*5)).length=0:=by rw[acH,hl];omega
   rw[List.length_eq_zero_iff.1 h0]at hu
   simp at hu
  ·refine⟨⟨b,off+j*5,none⟩,by simp[h],fun t u hu =>?_⟩
   rw[acE]at hu
   rw[ae1,acI]
   exact hcs _ _ hu
 have hdl:(cs.drop (j*5)).length=(n-j)*5:=by rw[acH,hl,Nat.sub_mul]
 have hsp:∀k,k<n*5->(w.cell? ⟨b,off+k,none⟩).isSome=true:=fun k hk=>by
  rw[hcs k _ (acA (by omega))];rfl
 have s1:Hid ((cs.drop (j*5)).length=(n-j)*5):=hdl
 have s2:Hid (∀u∈cs.drop (j*5),u.oneCell'=true):=fun u hu=>h1 u (ac5 hu)
 have s3:Hid (∀t,t<(cs.drop (j*5)).length->(w.drew.cell? ⟨b,off+i*5+t,none⟩).isSome=true∧w.drew.frozen? ⟨b,off+i*5+t,none⟩=false):=by
  intro t ht
  rw[hdl]at ht
  rw[acI]
  exact⟨hsp _ (by omega),hfz _⟩
 obtain⟨W1,hW1⟩:∃W1,W1=w.drew.setCells b (off+i*5) (cs.drop (j*5)):=⟨_,rfl⟩
 have hcl:∀ty,(Builtin.clear_ #[67] ty #[.slice (some ⟨b,off+(i+(n-j))*5,none⟩) (n-(i+(n-j))) (c-(i+(n-j)))]).run Try.prog W1=.ok (.tuple #[]) (W1.setCells b (off+(i+(n-j))*5) (Builtin.zeroCells kS.cells (n-(i+(n-j)))).toList) :=
  fun ty=>MX W1 _ _ ty kS t0 v0 b _ _ _ (by omega) _ rfl (TK _) (fun k hk=>by
   rw[mf]at hk
   rw[hW1,acI]
   exact isSome_setCells b _ _ _ (fun t ht=>(s3.out t ht).1) _ (hsp _ (by omega))) (fun k hk=>by rw[hW1,World.frozen?_setCells];exact hfz _)
 have hW:Hid (W1=w.drew.setCells b (off+i*5) (cs.drop (j*5))):=hW1
 rw[<- hW1]
 have hic:i<=c:=by omega
 have hjc:j<=c:=by omega
 have hne:¬(i=j):=by omega
 have mixed:Try.prog.follows .mixedOrders=true:=by kernel_rfl
 generalize (Builtin.zeroCells kS.cells (n-(i+(n-j)))).toList=Z at hcl ⊢
 clear hW1 hcs hdl hsp
 go_enter Try.func70,Try.ntmps70
 go_wp2_with fail
 go_region_law_o (refine step_append_room rfl (.tmp 22) (.tmp 25) 67 rfl 74 i0 5 t0 hi0 hz1 b off i c (by simp[Act.eval,Act.put]) A (n-j) (c-j) (cs.drop (j*5)) (by simp[Act.eval,Act.put]) s1.out hsrc.out s2.out (by omega) s3.out ?_;rw[<- hW.out])
 go_wp2_with (at_builtin;refine yO _ rfl _ 67 rfl _ rfl (hcl _) ?_)
 go_ret
 exact⟨rfl,rfl⟩
set_option maxHeartbeats 4000000 in
set_option maxRecDepth 100000 in
theorem SQ (b off n c i vb voff m vc:Nat) (cs vs:List Value) (w:World) (hi:i<n) (hm:0<m) (hroom:n+m<=c) (hc63:c<=9223372036854775807) (hvb:vb≠b)
  (hcl:cs.length=n*5) (hvl:vs.length=m*5)
  (hcs:∀j v,cs[j]? = some v->w.cell? ⟨b,off+j,none⟩=some v) (hsp:∀j,j<(n+m)*5->(w.cell? ⟨b,off+j,none⟩).isSome=true) (hfz:∀j,w.frozen? ⟨b,j,none⟩=false)
  (hvs:∀j v,vs[j]? = some v->w.cell? ⟨vb,voff+j,none⟩=some v) (h1c:∀v∈cs,v.oneCell'=true) (h1v:∀v∈vs,v.oneCell'=true)
  (tA tB:TypeId) (kA kB:Nat) (hsa:w.shape? vb=some (tA,kA)) (hsb:w.shape? b=some (tB,kB)) (hkB:kB≠0) (hfa:w.frozen? ⟨vb,voff,none⟩=false) (hfe:w.frozen? ⟨vb,kA,none⟩=false) :
  Calls Try.prog 99 #[.slice (some ⟨b,off,none⟩) n c,.int .i64 i,.slice (some ⟨vb,voff,none⟩) m vc] w fun e w' =>
   e=.returned (.slice (some ⟨b,off,none⟩) (n+m) c)∧w'=(w.drew.setCells b (off+(i+m)*5) (cs.drop (i*5))).setCells b (off+i*5) vs:=by
 have t0:=Try.underlying67
 have hz1:¬((m:Int)=0):=by omega
 have hz2:¬((i:Int)=(n:Int)):=by omega
 have hsz:=V4
 have hov:∀lb cb,(callFunc 114 #[.slice (some ⟨vb,voff,none⟩) m vc,.slice (some ⟨b,off+(i+m)*5,none⟩) lb cb]).run Try.prog w=.ok (.value (.bool false)) w:=fun lb cb=>by
  rw[run_callFunc_extern Try.func114 (by kernel_rfl) (by kernel_rfl) (by kernel_rfl) (e:=Extern.SlicesOverlaps.overlaps #[67,67] #[4]) (by kernel_rfl),
   Lib.run_overlaps_apart w 67 4 74 t0 5 Try.sizeOf74 ⟨vb,voff,none⟩ ⟨b,off+(i+m)*5,none⟩ m vc lb cb hvb tA tB kA kB hsa hsb hkB hfa hfe]
  rfl
 have hdl:(cs.drop (i*5)).length=(n-i)*5:=by rw[acH,hcl,Nat.sub_mul]
 have mixed:Try.prog.follows .mixedOrders=true:=by kernel_rfl
 have hw1:IntKind.i64.wrap ((i:Int)+(m:Int))=(i:Int)+(m:Int):=by rw[IntKind.wrap_i64];omega
 have hb1:(0:Int)<=(i:Int)+(m:Int):=by omega
 have hin:i<=n:=by omega
 have htn:((i:Int)+(m:Int)).toNat=i+m:=by omega
 have hb2:¬(c=i+m):=by omega
 have hb3:(i:Int)<=(n:Int)+(m:Int):=by omega
 have hb4:¬(c=i):=by omega
 have hcp1:∀ty dc sc,(Builtin.copy_ #[67,67] ty #[.slice (some ⟨b,off+(i+m)*5,none⟩) (n+m-(i+m)) dc,.slice (some ⟨b,off+i*5,none⟩) (n+m-i) sc]).run Try.prog w.drew=.ok (goInt (Nat.min (n+m-i) (n+m-(i+m)))) (w.drew.setCells b (off+(i+m)*5) (cs.drop (i*5))):=fun ty dc sc =>
  rC w.drew _ _ ty 74 5 b (off+(i+m)*5) (n+m-(i+m)) dc ⟨b,off+i*5,none⟩ (n+m-i) sc (cs.drop (i*5)) t0 hsz (by rw[hdl];congr 1;simp only[Nat.min_def];split<;>omega)
   (fun j v hj=>by rw[ae1,acI];exact hcs (i*5+j) v (by rwa [acE]at hj))
   (fun j hj=>by rw[acI];exact hsp _ (by omega)) (fun j hj=>hfz _) (fun v hv=>h1c v (ac5 hv))
 obtain⟨W1,hW1⟩:∃W1,W1=w.drew.setCells b (off+(i+m)*5) (cs.drop (i*5)):=⟨_,rfl⟩
 have hsp1:∀k,k<(n+m)*5->(W1.cell? ⟨b,off+k,none⟩).isSome=true:=fun k hk=>by
  rw[hW1]
  exact isSome_setCells b _ _ _ (fun j hj=>by rw[acI];exact hsp _ (by omega)) _ (hsp k hk)
 have hcp2:∀(W:World),(∀x,W.cell? x=W1.cell? x)->(∀x,W.frozen? x=W1.frozen? x)->∀ty dc,(Builtin.copy_ #[67,67] ty #[.slice (some ⟨b,off+i*5,none⟩) (n+m-i) dc,.slice (some ⟨vb,voff,none⟩) m vc]).run Try.prog W=.ok (goInt (Nat.min m (n+m-i))) (W.setCells b (off+i*5) vs):=fun W hWc hWf ty dc =>
  rC W _ _ ty 74 5 b (off+i*5) (n+m-i) dc ⟨vb,voff,none⟩ m vc vs t0 hsz (by rw[hvl];congr 1;simp only[Nat.min_def];split<;>omega)
   (fun j v hj=>by
    rw[ae1,hWc,hW1,World.cell?_setCells_out b _ _ _ _ (fun h _=>absurd h hvb)]
    exact hvs j v hj)
   (fun j hj=>by rw[hWc,acI];exact hsp1 _ (by omega)) (fun j hj=>by rw[hWf,hW1,World.frozen?_setCells];exact hfz _) h1v
 rw[<- hW1]at hcp1
 go_enter Try.func99,Try.ntmps99
 go_wp2_with (simp only[hov])
 go_region_law_o (refine step_copy_runI rfl _ _ 67 67 rfl _ _ (by simp[Act.eval,Act.put]) (by simp[Act.eval,Act.put]) (hcp1 _ _ _) ?_)
 go_wp2_with (at_builtin;refine wpList_copy_runI _ rfl _ _ 67 67 rfl _ _ rfl rfl (hcp2 _ (fun _=>rfl) (fun _=>rfl) _ _) ?_)
 go_ret
 first|exact⟨rfl,rfl⟩|exact⟨rfl,by rw[hW1]⟩
set_option maxHeartbeats 4000000 in
set_option maxRecDepth 100000 in
theorem HY (b off n c vb voff m vc:Nat) (vs:List Value) (w:World) (hm:0<m) (hroom:n+m<=c) (hc63:c<=9223372036854775807)
  (hvl:vs.length=m*5) (hsp:∀j,j<m*5->(w.cell? ⟨b,off+n*5+j,none⟩).isSome=true) (hfz:∀j,w.frozen? ⟨b,j,none⟩=false)
  (hvs:∀j v,vs[j]? = some v->w.cell? ⟨vb,voff+j,none⟩=some v) (h1v:∀v∈vs,v.oneCell'=true) :
  Calls Try.prog 99 #[.slice (some ⟨b,off,none⟩) n c,.int .i64 n,.slice (some ⟨vb,voff,none⟩) m vc] w fun e w' =>
   e=.returned (.slice (some ⟨b,off,none⟩) (n+m) c)∧w'=w.setCells b (off+n*5) vs:=by
 have t0:=Try.underlying67
 have mixed:Try.prog.follows .mixedOrders=true:=by kernel_rfl
 obtain⟨i0,hi0,hz0,hzs,hzb⟩:=info_parts HW
 have hz1:¬((m:Int)=0):=by omega
 have hsrc:Src Try.prog i0.size 67 (.slice (some ⟨vb,voff,none⟩) m vc) m vs w:=Src.ofSlice w t0 ⟨vb,voff,none⟩ m vc vs (by rw[hzs];omega) (fun j u hj=>by rw[ae1];exact hvs j u hj) h1v
 have e5:off+n*i0.size=off+n*5:=by rw[hzs]
 have hsp':Hid (∀j,j<vs.length->(w.cell? ⟨b,off+n*i0.size+j,none⟩).isSome=true):=fun j hj=>by rw[e5];exact hsp j (by omega)
 rw[<- e5]
 have hin:n<=c:=by omega
 go_enter Try.func99,Try.ntmps99
 go_wp2_with (at_builtin;refine wpList_append_room_src _ rfl _ _ 67 67 rfl 74 i0 t0 hi0 b off n c rfl _ rfl m vs hsrc hroom hsp'.out (fun _ _=>hfz _) ?_)
 go_ret
 exact⟨rfl,by rw[hzs]⟩
set_option maxHeartbeats 4000000 in
set_option maxRecDepth 100000 in
theorem w8 (base:Option Addr) (n c vb voff m vc:Nat) (cs vs:List Value) (w:World) (hm:0<m) (hnc:n<=c) (hc63:c<=9223372036854775807) (hroom:c<n+m) (hbig:(n+m)*72<=140737488355328)
  (hcl:cs.length=n*5) (hvl:vs.length=m*5) (hnil:base=none->n=0)
  (hcs:∀a,base=some a->∀j v,cs[j]? = some v->w.cell? (a.add j)=some v)
  (hvs:∀j v,vs[j]? = some v->w.cell? ⟨vb,voff+j,none⟩=some v) (h1v:∀v∈vs,v.oneCell'=true) :
  Calls Try.prog 99 #[.slice base n c,.int .i64 n,.slice (some ⟨vb,voff,none⟩) m vc] w fun e w' =>
   e=.returned (.slice (some ⟨w.heap.size,0,none⟩) (n+m) (grownCap w (n+m) c 74)) ∧
   w'=w.drew.alloc (.cells ((cs++vs).toArray++Builtin.zeroCells kS.cells (grownCap w (n+m) c 74-(n+m))) 74):=by
 have t0:=Try.underlying67
 have mixed:Try.prog.follows .mixedOrders=true:=by kernel_rfl
 obtain⟨i0,hi0,hz0,hzs,hzb⟩:=info_parts HW
 have hz1:¬((m:Int)=0):=by omega
 have hsrc:Src Try.prog i0.size 67 (.slice (some ⟨vb,voff,none⟩) m vc) m vs w:=by
  rw[hzs]
  exact Src.ofSlice w t0 ⟨vb,voff,none⟩ m vc vs (by omega) (fun j u hj=>by rw[ae1];exact hvs j u hj) h1v
 have hold:(Builtin.firstCells i0.size n (.slice base n c)).run Try.prog w.drew=.ok cs.toArray w.drew:=by
  rw[hzs]
  cases base with
  | none =>
   have h0:=hnil rfl
   subst h0
   obtain rfl:cs=[]:=List.length_eq_zero_iff.1 (by omega)
   exact run_firstCells_none w.drew 5 0 0 c
  | some a=>exact run_firstCells_some w.drew 5 n a n c cs (by omega) (fun j v hj=>hcs a rfl j v hj)
 have hrun:∀ty,(Builtin.append_ #[67,67] ty #[.slice base n c,.slice (some ⟨vb,voff,none⟩) m vc]).run Try.prog w=_:=fun ty =>
  run_append_grow_src w 67 67 ty 74 i0 _ t0 hi0 hz0 base n c cs hold _ m vs hsrc hroom (by omega) (by rw[hzb];exact growslice_fits hroom hbig)
 generalize hR:w.drew.alloc (.cells ((cs++vs).toArray++Builtin.zeroCells kS.cells (grownCap w (n+m) c 74-(n+m))) 74)=R
 have hrun':∀ty,(Builtin.append_ #[67,67] ty #[.slice base n c,.slice (some ⟨vb,voff,none⟩) m vc]).run Try.prog w=.ok (.slice (some ⟨w.heap.size,0,none⟩) (n+m) (grownCap w (n+m) c 74)) R:=fun ty=>by rw[hrun ty,<- hR];rfl
 clear hrun hold hR
 go_enter Try.func99,Try.ntmps99
 cases base with
 | none =>
  have h0:=hnil rfl
  subst h0
  go_wp2_with (at_builtin;refine Lib.wpList_append_run _ rfl _ _ _ _ rfl _ _ rfl rfl _ _ (hrun' _) ?_)
  go_ret
  exact⟨rfl,rfl⟩
 | some a =>
  obtain⟨ab,ao,asp⟩:=a
  go_wp2_with (at_builtin;refine Lib.wpList_append_run _ rfl _ _ _ _ rfl _ _ rfl rfl _ _ (hrun' _) ?_)
  all_goals (go_ret;exact⟨rfl,rfl⟩)
set_option maxHeartbeats 4000000 in
set_option maxRecDepth 100000 in
theorem Vn (b off n c i vb voff m vc:Nat) (cs vs:List Value) (w:World) (hi:i<n) (hm:0<m) (hnc:n<=c) (hroom:c<n+m) (hbig:(n+m)*72<=140737488355328)
  (hcl:cs.length=n*5) (hvl:vs.length=m*5)
  (hcs:∀j v,cs[j]? = some v->w.cell? ⟨b,off+j,none⟩=some v)
  (hvs:∀j v,vs[j]? = some v->w.cell? ⟨vb,voff+j,none⟩=some v) (h1c:∀v∈cs,v.oneCell'=true) (h1v:∀v∈vs,v.oneCell'=true) :
  Calls Try.prog 99 #[.slice (some ⟨b,off,none⟩) n c,.int .i64 i,.slice (some ⟨vb,voff,none⟩) m vc] w fun e w' =>
   e=.returned (.slice (some ⟨w.heap.size,0,none⟩) (n+m) (grownCap w (n+m) c 74)) ∧
   w'=(((w.alloc (.cells ((cs.take (i*5)).toArray++Builtin.zeroCells kS.cells (n+m-i)++Builtin.zeroCells kS.cells (grownCap w (n+m) c 74-(n+m))) 74)).drew.setCells w.heap.size (i*5) vs).drew).setCells w.heap.size ((i+m)*5) (cs.drop (i*5)):=by
 have t0:=Try.underlying67
 have mixed:Try.prog.follows .mixedOrders=true:=by kernel_rfl
 obtain⟨i0,hi0,hz0,hzs,hzb⟩:=info_parts HW
 have hz1:¬((m:Int)=0):=by omega
 have hz2:¬((i:Int)=(n:Int)):=by omega
 have hz3:(c:Int)<(n:Int)+(m:Int):=by omega
 have hsz:=V4
 have hbw:b<w.heap.size:=block_lt_of_cell (hcs 0 _ (acA (by omega)))
 have hvw:vb<w.heap.size:=block_lt_of_cell (hvs 0 _ (acA (by omega)))
 have hkk:(n:Int)+(m:Int)-(i:Int)=((n+m-i:Nat):Int):=by omega
 have hik:i+(n+m-i)=n+m:=by omega
 have hold:(Builtin.firstCells i0.size i (.slice (some ⟨b,off,none⟩) i c)).run Try.prog w.drew=.ok (cs.take (i*5)).toArray w.drew:=by
  rw[hzs]
  exact run_firstCells_some w.drew 5 i ⟨b,off,none⟩ i c (cs.take (i*5)) (by rw[acG];omega) (fun j v hj=>by
   rw[ae1]
   rw[acD]at hj
   split at hj
   ·exact hcs j v hj
   ·cases hj)
 obtain⟨G,hG⟩:∃G,G=grownCap w (n+m) c 74:=⟨_,rfl⟩
 obtain⟨ROW,hROW⟩:∃ROW:Array Value,ROW=(cs.take (i*5)).toArray++Builtin.zeroCells kS.cells (n+m-i)++Builtin.zeroCells kS.cells (G-(n+m)):=⟨_,rfl⟩
 have hrz:∀ty,(Builtin.append_ #[67,3] ty #[.slice (some ⟨b,off,none⟩) i c,.int .i64 ((n:Int)+(m:Int)-(i:Int))]).run Try.prog w =
   .ok (.slice (some ⟨w.heap.size,0,none⟩) (n+m) G) (w.drew.alloc (.cells ROW 74)):=fun ty=>by
  have h:=Lib.run_append_grow_zeros w 67 3 ty 74 i0 kS .i64 .i64 t0 Try.underlying3 hi0 hz0 (some ⟨b,off,none⟩) i c (cs.take (i*5)) hold (n+m-i) (by omega) (by omega) (by omega) (by omega) (by rw[hzb];omega) (by rw[hzb,hik];exact growslice_fits hroom hbig)
  rw[hik]at h
  rw[hkk,hROW,hG]
  exact h
 rw[<- hG]
 rw[<- hROW]
 have hRl:(n+m)*5<=ROW.size:=by
  have h1:(Builtin.zeroCells kS.cells (n+m-i)).size=(n+m-i)*5:=by have:=mf (n+m-i);simpa using this
  rw[hROW,adz,adz,h1]
  simp only[adA,acG]
  omega
 obtain⟨W1,hW1⟩:∃W1,W1=w.drew.alloc (.cells ROW 74):=⟨_,rfl⟩
 rw[<- hW1]at hrz
 have hN:∀j,j<(n+m)*5->(W1.cell? ⟨w.heap.size,j,none⟩).isSome=true:=fun j hj=>by
  rw[hW1,World.cell?_alloc_at (w:=w.drew) ROW _ w.heap.size j rfl,adr (by omega)];rfl
 have hNf:∀j,W1.frozen? ⟨w.heap.size,j,none⟩=false:=fun j=>by rw[hW1];exact World.frozen?_alloc_at (w:=w.drew) ROW _ w.heap.size j rfl
 have hOb:∀j v,w.cell? ⟨b,j,none⟩=some v->W1.cell? ⟨b,j,none⟩=some v:=fun j v h=>by rw[hW1,World.cell?_alloc_past (w:=w.drew) _ b j hbw];exact h
 have hOv:∀j v,w.cell? ⟨vb,j,none⟩=some v->W1.cell? ⟨vb,j,none⟩=some v:=fun j v h=>by rw[hW1,World.cell?_alloc_past (w:=w.drew) _ vb j hvw];exact h
 have hcpA:∀(W:World),(∀x,W.cell? x=W1.cell? x)->(∀x,W.frozen? x=W1.frozen? x)->∀ty dc,(Builtin.copy_ #[67,67] ty #[.slice (some ⟨w.heap.size,i*5,none⟩) (n+m-i) dc,.slice (some ⟨vb,voff,none⟩) m vc]).run Try.prog W=.ok (goInt (Nat.min m (n+m-i))) (W.setCells w.heap.size (i*5) vs):=fun W hWc hWf ty dc =>
  rC W _ _ ty 74 5 w.heap.size (i*5) (n+m-i) dc ⟨vb,voff,none⟩ m vc vs t0 hsz (by rw[hvl];congr 1;simp only[Nat.min_def];split<;>omega)
   (fun j v hj=>by rw[ae1,hWc];exact hOv _ v (hvs j v hj))
   (fun j hj=>by rw[hWc];exact hN _ (by omega)) (fun j hj=>by rw[hWf];exact hNf _) h1v
 have hGn:n+m<=G:=by rw[hG];exact grownCap_ge w _ _ _
 have hG63:G<=9223372036854775807:=by
  have:=grownCap_le_maxLen w (n+m) c 74 (by unfold maxLen;omega)
  rw[<- hG]at this
  unfold maxLen at this
  omega
 have hGi:¬(G=i):=by omega
 have hGim:¬(G=i+m):=by omega
 have hci:¬(c=i):=by omega
 have hbN:b≠w.heap.size:=by omega
 have hdl:(cs.drop (i*5)).length=(n-i)*5:=by rw[acH,hcl,Nat.sub_mul]
 have hcpB:∀(W:World),(∀x,W.cell? x=(W1.setCells w.heap.size (i*5) vs).cell? x)->(∀x,W.frozen? x=(W1.setCells w.heap.size (i*5) vs).frozen? x)->∀ty dc sc,(Builtin.copy_ #[67,67] ty #[.slice (some ⟨w.heap.size,(i+m)*5,none⟩) (n+m-(i+m)) dc,.slice (some ⟨b,off+i*5,none⟩) (n-i) sc]).run Try.prog W=.ok (goInt (Nat.min (n-i) (n+m-(i+m)))) (W.setCells w.heap.size ((i+m)*5) (cs.drop (i*5))):=fun W hWc hWf ty dc sc =>
  rC W _ _ ty 74 5 w.heap.size ((i+m)*5) (n+m-(i+m)) dc ⟨b,off+i*5,none⟩ (n-i) sc (cs.drop (i*5)) t0 hsz (by rw[hdl];congr 1;simp only[Nat.min_def];split<;>omega)
   (fun j v hj=>by
    rw[ae1,hWc,World.cell?_setCells_out _ _ _ _ _ (fun h _=>absurd h hbN),acI]
    exact hOb _ v (hcs (i*5+j) v (by rwa [acE]at hj)))
   (fun j hj=>by rw[hWc];exact isSome_setCells _ _ _ _ (fun t ht=>hN _ (by omega)) _ (hN _ (by omega)))
   (fun j hj=>by rw[hWf,World.frozen?_setCells];exact hNf _) (fun v hv=>h1c v (ac5 hv))
 subst hW1
 have hE1:∀x,((w.alloc (.cells ROW 74)).drew).cell? x=(w.drew.alloc (.cells ROW 74)).cell? x:=fun x=>rfl
 have hE2:∀x,((w.alloc (.cells ROW 74)).drew).frozen? x=(w.drew.alloc (.cells ROW 74)).frozen? x:=fun x=>rfl
 have hF1:∀x,(((w.alloc (.cells ROW 74)).drew.setCells w.heap.size (i*5) vs).drew).cell? x=((w.drew.alloc (.cells ROW 74)).setCells w.heap.size (i*5) vs).cell? x:=fun x=>rfl
 have hF2:∀x,(((w.alloc (.cells ROW 74)).drew.setCells w.heap.size (i*5) vs).drew).frozen? x=((w.drew.alloc (.cells ROW 74)).setCells w.heap.size (i*5) vs).frozen? x:=fun x=>rfl
 have hw1:IntKind.i64.wrap ((i:Int)+(m:Int))=(i:Int)+(m:Int):=by rw[IntKind.wrap_i64];omega
 have hb1:(0:Int)<=(i:Int)+(m:Int):=by omega
 have hin:i<=n:=by omega
 have htn:((i:Int)+(m:Int)).toNat=i+m:=by omega
 have hb3:(i:Int)<=(n:Int):=by omega
 clear hkk hik hold hROW hG hRl
 go_enter Try.func99,Try.ntmps99
 go_wp2_with (first
  | (at_builtin;refine Lib.wpList_append_run _ rfl _ _ _ _ rfl _ _ rfl rfl _ _ (hrz _) ?_)
  | (at_builtin;refine wpList_copy_runI _ rfl _ _ 67 67 rfl _ _ rfl rfl (hcpA _ hE1 hE2 _ _) ?_)
  | (at_builtin;refine wpList_copy_runI _ rfl _ _ 67 67 rfl _ _ rfl rfl (hcpB _ (fun _=>rfl) (fun _=>rfl) _ _ _) ?_))
 go_region_law_o (refine step_copy_runI rfl _ _ 67 67 rfl (.slice (some ⟨w.heap.size,(i+m)*5,none⟩) (n+m-(i+m)) (G-(i+m))) (.slice (some ⟨b,off+i*5,none⟩) (n-i) (c-i)) (by simp[Act.eval,Act.put]) (by simp[Act.eval,Act.put]) (hcpB _ hF1 hF2 3 (G-(i+m)) (c-i)) ?_)
 go_wp2
 go_ret
 exact⟨rfl,rfl⟩
end Go.Proofs.Ytchndpjlijbplaa.Am
namespace Go.Proofs.Ytchndpjlijbplaa.Am
open Go.RowKit Go.Proofs.Ytchndpjlijbplaa.P
set_option linter.unusedSimpArgs false
set_option linter.unusedVariables false
theorem XA:TQ Try.prog 99 (74,5,72) where
 callable:=⟨_,Try.func99,by kernel_rfl,by kernel_rfl⟩
 pos:=by decide
 calls w go go' u u' i n m cs cs' h1 h2 hne hl hl' ho ho' hi hm hmax:=by
  simp only at *
  obtain⟨g',c',arr',rfl,rfl,b1,b2,b3,b4,b5⟩:∃g c arr,go'=some g∧u'=.slice (some ⟨g.1,g.2,none⟩) m c∧w.heap[g.1]? = some (.cells arr 74 (0,0))∧c*5+g.2=arr.size∧m<=c∧c<=maxLen∧∀(j:Nat) x,cs'[j]? = some x->arr[g.2+j]? = some x:=by
   rcases h2 with⟨g,c,arr,k⟩|⟨_,rfl,_⟩
   ·exact⟨g,c,arr,by simpa using k⟩
   ·omega
  have hvs:∀(j:Nat) v,cs'[j]? = some v->w.cell? ⟨g'.1,g'.2+j,none⟩=some v:=fun j v hj=>by simp[World.cell?,b1,b5 j v hj]
  rcases h1 with⟨g,c,arr,rfl,rfl,a1,a2,a3,a4,a5⟩|⟨rfl,rfl,rfl,A,rfl⟩
  ·have hcs:∀(j:Nat) v,cs[j]? = some v->w.cell? ⟨g.1,g.2+j,none⟩=some v:=fun j v hj=>by simp[World.cell?,a1,a5 j v hj]
   have hfz:∀j,w.frozen? ⟨g.1,j,none⟩=false:=fun j=>by simp[World.frozen?,a1]
   have hbb:g.1≠g'.1:=hne g g' rfl rfl
   have hlt:g.1<w.heap.size:=(acq.1 a1).1
   have hsp:∀j,j<(n+m)*5->n+m<=c->(w.cell? ⟨g.1,g.2+j,none⟩).isSome=true:=fun j hj hr=>by
    simp only[World.cell?,a1]
    rw[adr (by omega)]
    rfl
   by_cases hin:i=n
   ·subst hin
    have ht:cs.take (i*5)=cs:=adH (by omega)
    have hd:cs.drop (i*5)=[]:=ad6 (by omega)
    rw[ht,hd,aec]
    by_cases hroom:i+m<=c
    ·refine (HY g.1 g.2 i c g'.1 g'.2 m c' cs' w hm hroom (by unfold maxLen at a4;omega) hl' (fun j hj=>by have:=hsp (i*5+j) (by omega) hroom;rwa [<- acI]at this) hfz hvs ho').mono fun e w' ⟨he,hw⟩ =>?_
     subst hw
     obtain⟨e1,e2,e3,e4,e5,arr2,e6,e7,e8⟩:=fk g.1 cs' (g.2+i*5) w arr a1 (by omega)
     refine⟨_,he,⟨e1,e2,e3,by omega,fun k hk hn=>e5 k (fun h=>hn ⟨g,rfl,h⟩)⟩,g,c,arr2,rfl,.inr ⟨g,rfl,rfl⟩,e6,hroom,a4,by omega,fun j x hj =>?_⟩
     rw[e8]
     by_cases hj2:j<i*5
     ·rw[if_neg (by omega)]
      rw[ac1 (by omega)]at hj
      exact a5 j x hj
     ·have hjl:=(acQ.1 hj).1
      rw[adq]at hjl
      rw[ac2 (by omega)]at hj
      rw[if_pos (by omega)]
      rw[<- hj];congr 1;omega
    ·refine (w8 (some ⟨g.1,g.2,none⟩) i c g'.1 g'.2 m c' cs cs' w hm a3 (by unfold maxLen at a4;omega) (by omega) hmax hl hl' (fun h=>by cases h) (fun a ha j v hj=>by cases ha;rw[ae1];exact hcs j v hj) hvs ho').mono fun e w' ⟨he,hw⟩ =>?_
     subst hw
     have hge:=grownCap_ge w (i+m) c 74
     have hzl:=mf (grownCap w (i+m) c 74-(i+m))
     refine⟨_,he,db.pP ((Below.refl _ w).drew.alloc (by simp) _),(w.heap.size,0),_,_,rfl,.inl (acm _),heap_alloc_new w.drew _,hge,grownCap_le_maxLen _ _ _ _ (by unfold maxLen;omega),?_,fun j x hj =>?_⟩
     ·rw[ac3]at hzl
      simp only[adz,adA,adq,hzl];omega
     ·have hjl:=(acQ.1 hj).1
      rw[ada,ad0 (by simpa using hjl)]
      simpa using hj
   ·have hin':i<n:=by omega
    by_cases hroom:n+m<=c
    ·refine (SQ g.1 g.2 n c i g'.1 g'.2 m c' cs cs' w hin' hm hroom (by unfold maxLen at a4;omega) (Ne.symm hbb) hl hl' hcs (fun j hj=>hsp j hj hroom) hfz hvs ho ho' 74 74 arr'.size arr.size (by simp[World.shape?,b1]) (by simp[World.shape?,a1]) (by omega) (by simp[World.frozen?,b1]) (by simp[World.frozen?,b1])).mono fun e w' ⟨he,hw⟩ =>?_
     subst hw
     obtain⟨e1,e2,e3,e4,e5,arr2,e6,e7,e8⟩:=fk g.1 (cs.drop (i*5)) (g.2+(i+m)*5) w.drew arr a1 (by simp;omega)
     obtain⟨f1,f2,f3,f4,f5,arr3,f6,f7,f8⟩:=fk g.1 cs' (g.2+i*5) _ arr2 e6 (by omega)
     refine⟨_,he,⟨f1.trans e1,f2.trans e2,f3.trans e3,by rw[f4,e4];exact acm _,fun k hk hn=>(f5 k (fun h=>hn ⟨g,rfl,h⟩)).trans (e5 k (fun h=>hn ⟨g,rfl,h⟩))⟩,g,c,arr3,rfl,.inr ⟨g,rfl,rfl⟩,f6,hroom,a4,by omega,fun j x hj =>?_⟩
     have hjl:=(acQ.1 hj).1
     simp only[adq,acG,acH]at hjl
     rw[f8,e8]
     by_cases hj1:j<i*5
     ·rw[ac1 (by rw[acG];omega),acD,if_pos hj1]at hj
      rw[if_neg (by omega),if_neg (by simp;omega)]
      exact a5 j x hj
     ·rw[ac2 (by rw[acG];omega),acG,adt (by omega)]at hj
      by_cases hj2:j<(i+m)*5
      ·rw[ac1 (by omega)]at hj
       rw[if_pos (by omega),<- hj];congr 1;omega
      ·rw[ac2 (by omega)]at hj
       rw[if_neg (by omega),if_pos (by simp;omega),<- hj];congr 1;omega
    ·refine (Vn g.1 g.2 n c i g'.1 g'.2 m c' cs cs' w hin' hm a3 (by omega) hmax hl hl' hcs hvs ho ho').mono fun e w' ⟨he,hw⟩ =>?_
     subst hw
     have hge:=grownCap_ge w (n+m) c 74
     generalize hG:grownCap w (n+m) c 74=G at *
     have hz1:=mf (n+m-i)
     have hz2:=mf (G-(n+m))
     rw[ac3]at hz1 hz2
     generalize hR:((cs.take (i*5)).toArray++Builtin.zeroCells kS.cells (n+m-i)++Builtin.zeroCells kS.cells (G-(n+m)))=R
     have hRs:R.size=G*5:=by subst hR;simp only[adz,adA,acG,hz1,hz2];omega
     have hR0:∀j,j<i*5->R[j]? = cs[j]?:=fun j hj=>by
      subst hR
      rw[Array.append_assoc,ad0 (by simp;omega)]
      simp[acD,hj]
     have hw0:(w.alloc (.cells R 74)).drew.heap[w.heap.size]? = some (.cells R 74 (0,0)):=heap_alloc_new w _
     obtain⟨e1,e2,e3,e4,e5,arr2,e6,e7,e8⟩:=fk w.heap.size cs' (i*5) _ R hw0 (by omega)
     obtain⟨f1,f2,f3,f4,f5,arr3,f6,f7,f8⟩:=fk w.heap.size (cs.drop (i*5)) ((i+m)*5) (((w.alloc (.cells R 74)).drew.setCells w.heap.size (i*5) cs').drew) arr2 e6 (by simp;omega)
     refine⟨_,he,⟨f1.trans e1,f2.trans e2,f3.trans e3,?_,fun k hk hn =>?_⟩,(w.heap.size,0),G,arr3,rfl,.inl (acm _),f6,hge,hG ▸ grownCap_le_maxLen _ _ _ _ (by unfold maxLen;omega),by simp only;omega,fun j x hj =>?_⟩
     ·rw[f4]
      show _<=((w.alloc (.cells R 74)).drew.setCells w.heap.size (i*5) cs').heap.size
      rw[e4]
      show _<=(w.alloc (.cells R 74)).heap.size
      simp
     ·rw[f5 k (by omega)]
      show ((w.alloc (.cells R 74)).drew.setCells w.heap.size (i*5) cs').heap[k]? = _
      rw[e5 k (by omega)]
      exact Below.heap_alloc w _ k hk
     ·have hjl:=(acQ.1 hj).1
      simp only[adq,acG,acH]at hjl
      rw[ada,f8,e8]
      by_cases hj1:j<i*5
      ·rw[ac1 (by rw[acG];omega),acD,if_pos hj1]at hj
       rw[if_neg (by omega),if_neg (by omega),hR0 j hj1,hj]
      ·rw[ac2 (by rw[acG];omega),acG,adt (by omega)]at hj
       by_cases hj2:j<(i+m)*5
       ·rw[ac1 (by omega)]at hj
        rw[if_neg (by omega),if_pos (by omega),<- hj]
       ·rw[ac2 (by omega)]at hj
        rw[if_pos (by simp;omega),<- hj];congr 1;omega
  ·have hi0:i=0:=by omega
   subst hi0
   refine (w8 A 0 0 g'.1 g'.2 m c' [] cs' w hm (acm _) (by omega) (by omega) (by omega) rfl hl' (fun _=>rfl) (fun a ha j v hj=>by simp at hj) hvs ho').mono fun e w' ⟨he,hw⟩ =>?_
   subst hw
   have hge:=grownCap_ge w (0+m) 0 74
   have hzl:=mf (grownCap w (0+m) 0 74-(0+m))
   refine⟨_,he,db.pP ((Below.refl _ w).drew.alloc (by simp) _),(w.heap.size,0),_,_,rfl,.inl (acm _),heap_alloc_new w.drew _,hge,grownCap_le_maxLen _ _ _ _ (by unfold maxLen;omega),?_,fun j x hj =>?_⟩
   ·rw[ac3]at hzl
    simp only[adz,adA,List.nil_append,hzl];omega
   ·simp only[aea,List.take_nil,List.drop_nil,List.nil_append,aec]at hj
    have hjl:=(acQ.1 hj).1
    rw[ada,ad0 (by simpa using hjl)]
    simpa using hj
theorem Xk {α:Type} (E:gY α) (hE:E.size=5):bY Try.prog 70 (YI 74 E (iQ (aI .i64) (fP (aI .i64))) (fun (l:List α) (x:Int×Int)=>UF l x.1 x.2)) where
 callable:=⟨_,Try.func70,by kernel_rfl,by kernel_rfl⟩
 calls lent ds rk out hg:=by
  obtain⟨pre,l,post,a,r,rfl,rfl,hr,rfl,rfl⟩:=L6 hg
  obtain⟨ai,aj⟩:=a
  unfold UF at hr
  split at hr
  rotate_left
  ·cases hr
  rename_i hcond
  obtain⟨hi0,hij,hjn,hlen⟩:=hcond
  simp only at hi0 hij hjn
  cases hr
  intro w M go u0 vs hM hgoM hz hmp hrow hlv hargs
  have hvs:vs = #[.int .i64 ai,.int .i64 aj]:=by
   have h1:vs.size=2:=hargs.size
   have e0:=TZ (hargs.at_ 0 (.int .i64 ai) rfl)
   have e1:=TZ (hargs.at_ 1 (.int .i64 aj) rfl)
   apply Array.ext
   ·simp[h1]
   ·intro k h2 h3
    have:k=0∨k=1:=by omega
    rcases this with rfl|rfl
    ·simpa [acr,adr h2] using e0
    ·simpa [acr,adr h2] using e1
  subst hvs
  simp only
  obtain⟨i,rfl⟩:∃i:Nat,ai=(i:Int):=⟨ai.toNat,by omega⟩
  obtain⟨j,rfl⟩:∃j:Nat,aj=(j:Int):=⟨aj.toNat,by omega⟩
  simp only[Int.toNat_natCast]
  have hijn:i<=j:=by omega
  have hjl:j<=l.length:=by omega
  have hnl:(l.take i++l.drop j).length=i+(l.length-j):=by rw[adq,acG,acH];omega
  have hlE:(ae E l).length=l.length*5:=by rw[bH,hE]
  have henc:ae E (l.take i++l.drop j)=(ae E l).take (i*5)++(ae E l).drop (j*5):=by rw[fh,<- hE,dY,nE]
  rcases hlv.2 ⟨0,0,[],false,false,false⟩ rfl rfl with⟨g,o',c,N,t,k0,k1,k2,k3,k4,k5⟩|⟨k0,hn0,A,k1⟩
  ·cases k0
   subst k1
   rw[hE]at k2
   obtain⟨cs,h1,h2,h3⟩:=hrow
   simp only[adq,hlE]at h2
   have hN:N=cs.size:=by
    simp only[World.shape?,h1,acw,Prod.mk.injEq]at k5
    exact k5.2.symm
   have hc63:c<=9223372036854775807:=by unfold maxLen at k4;omega
   by_cases heq:i=j
   ·subst heq
    have hsame:l.take i++l.drop i=l:=ad9 i l
    rw[hsame]
    refine (JR (some ⟨g.1,o',none⟩) l.length c i w hjl k3 hc63 (fun h=>by cases h)).mono fun e w' ⟨he,hw⟩ =>?_
    subst hw
    refine⟨_,he,⟨rfl,rfl,rfl,acm _,fun k _ _=>rfl⟩,trivial,?_⟩
    by_cases hcc:0<c∨pre.length=0
    ·obtain⟨k6,k7⟩:=k2 hcc
     refine .inl ⟨(g.1,o'),c,cs,rfl,.inr ⟨g,rfl,rfl⟩,h1,k3,k4,by rw[hE];omega,?_,fun k d hk =>?_⟩
     ·simp only;rw[hlE];omega
     ·have hkl:=(acQ.1 hk).1
      have:=h3 (pre.length+k) d (by rw[ac2 (by omega),adE,ac1 hkl];exact hk)
      simp only
      rw[k6,acI]
      exact⟨this.1,this.2.less fun b hb=>hb.imp id fun h=>⟨g,rfl,h⟩⟩
    ·have:c=0:=by omega
     subst this
     have hl0:l=[]:=adx (by omega)
     subst hl0
     exact .inr ⟨rfl,rfl,_,rfl⟩
   ·have hlt:i<j:=by omega
    obtain⟨k6,k7⟩:=k2 (.inl (by omega))
    subst k6
    obtain⟨yM,hvals⟩:∃yM:List Value,yM=(List.range (l.length*5)).map fun k=>cs.getD (g.2+(pre.length+k)) undef:=⟨_,rfl⟩
    have hvl:yM.length=l.length*5:=by rw[hvals];simp
    have hvk:∀k,k<l.length*5->yM[k]? = some (cs.getD (g.2+(pre.length+k)) undef):=fun k hk=>by rw[hvals,aci,List.getElem?_range hk];rfl
    have hrel:∀k d,(ae E l)[k]? = some d->aT d=true∧RP w (fun b=>M b∨rZ (some g) b) d (cs.getD (g.2+(pre.length+k)) undef):=fun k d hk=>by
     have hkl:=(acQ.1 hk).1
     exact h3 (pre.length+k) d (by rw[ac2 (by omega),adE,ac1 hkl];exact hk)
    have hcell:∀k v,yM[k]? = some v->w.cell? ⟨g.1,g.2+pre.length+k,none⟩=some v:=fun k v hk=>by
     have hkl:=(acQ.1 hk).1
     rw[hvk k (by omega)]at hk
     have:=bt h1 (j:=g.2+pre.length+k) (by omega)
     rw[this,acI]
     exact hk
    have hone:∀v∈yM,v.oneCell'=true:=fun v hv=>by
     obtain⟨k,hk⟩:=acJ hv
     have hkl:=(acQ.1 hk).1
     rw[hvk k (by omega)]at hk
     obtain⟨p1,p2⟩:=hrel k _ (acA (by omega))
     have:=p2.uB p1
     rwa [Option.some.inj hk]at this
    refine (UH g.1 (g.2+pre.length) l.length c i j yM w hvl hcell (fun k=>by simp[World.frozen?,h1]) hone k3 hc63 hlt hjl).mono fun e w' ⟨he,hw⟩ =>?_
    have hzl:=mf (l.length-(i+(l.length-j)))
    have hdl:(yM.drop (j*5)).length=(l.length-j)*5:=by rw[acH,hvl,Nat.sub_mul]
    obtain⟨e1,e2,e3,e4,e5,arr2,e6,e7,e8⟩:=fk g.1 (yM.drop (j*5)) (g.2+pre.length+i*5) w.drew cs h1 (by omega)
    obtain⟨f1,f2,f3,f4,f5,arr3,f6,f7,f8⟩:=fk g.1 (Builtin.zeroCells kS.cells (l.length-(i+(l.length-j)))).toList (g.2+pre.length+(i+(l.length-j))*5) _ arr2 e6 (by omega)
    rw[<- hw]at f1 f2 f3 f4 f5 f6
    have hbey:db (rZ (some g)) w w':=⟨f1.trans e1,f2.trans e2,f3.trans e3,by rw[f4,e4];exact acm _,fun k hk hn=>(f5 k (fun h=>hn ⟨g,rfl,h⟩)).trans (e5 k (fun h=>hn ⟨g,rfl,h⟩))⟩
    refine⟨_,he,hbey,trivial,.inl ⟨(g.1,g.2+pre.length),c,arr3,by rw[hnl],.inr ⟨g,rfl,rfl⟩,f6,by rw[hnl];omega,k4,by rw[hE];simp only;omega,?_,fun k d hk =>?_⟩⟩
    ·simp only;rw[bH,hE,hnl];omega
    ·have hkl:=(acQ.1 hk).1
     rw[bH,hE,hnl]at hkl
     rw[henc]at hk
     have hval:∀k':Nat,(ae E l)[k']? = some d->yM[k']? = arr3[g.2+pre.length+k]?->aT d=true∧RP w' (fun b=>M b∨b=g.1) d (arr3.getD (g.2+pre.length+k) undef):=by
      intro k' hk' hv
      have hkl':=(acQ.1 hk').1
      obtain⟨p1,p2⟩:=hrel k' d hk'
      rw[hvk k' (by omega)]at hv
      refine⟨p1,?_⟩
      rw[acr,<- hv]
      refine p2.keep fun b q1 q2=>⟨acp q1 hbey.size,?_,hbey.block b q1 (fun hn=>q2 (.inr hn))⟩
      rintro (hb|hb)
      ·exact q2 (.inl hb)
      ·exact q2 (.inr ⟨g,rfl,hb⟩)
     simp only
     by_cases hk1:k<i*5
     ·rw[ac1 (by rw[acG];omega),acD,if_pos hk1]at hk
      refine hval k hk ?_
      rw[f8,if_neg (by omega),e8,if_neg (by omega),hvk k (by omega),acr,acI,adr (show g.2+(pre.length+k)<cs.size by omega)]
      rfl
     ·rw[ac2 (by rw[acG];omega),acG,adt (by omega),acE]at hk
      refine hval (j*5+(k-i*5)) hk ?_
      rw[f8,if_neg (by omega),e8,if_pos (by omega),acE]
      congr 1;omega
  ·subst k1
   have hl0:l=[]:=adx hn0
   subst hl0
   simp only[List.length_nil]at hjl
   obtain rfl:j=0:=by omega
   obtain rfl:i=0:=by omega
   refine (JR A 0 0 0 w (acm _) (acm _) (by decide) (fun _=>rfl)).mono fun e w' ⟨he,hw⟩ =>?_
   subst hw
   exact⟨_,he,⟨rfl,rfl,rfl,acm _,fun k _ _=>rfl⟩,trivial,.inr ⟨rfl,rfl,_,rfl⟩⟩
end Go.Proofs.Ytchndpjlijbplaa.Am
namespace Go.Proofs.Ytchndpjlijbplaa.P
open Go.RowKit
set_option linter.unusedVariables false
structure an where
 ag:Int
 aa:(List Int)
structure al where
 aH:an
 aK:an
structure di where
 de:Int
 lN:Int
 bg:al
structure bW where
 aF:Int
 ax:(List di)
structure du where
 kn:Int
 dx:al
structure aw where
 aP:al
 bl:(List du)
def zO (p0:(List Int)):(Int)->Option ((Int)⊕((Int)))
 | s3a =>
  if decide (s3a>0) then
   (P.idx p0 (IntKind.i64.wrap (s3a-1))).bind fun x6 =>
   if (x6==0) then
    some (.inl (IntKind.i64.wrap (s3a-1)))
   else
    some (.inr s3a)
  else
   some (.inr s3a)
def jj (p0:(List Int)):Option ((List Int)) :=
 (ba (zO p0) (p0.length:Int)).bind fun s3ax =>
 (Al p0 0 s3ax).bind fun x8 =>
 (km 8 [] x8).bind fun _ =>
 some x8
def ji (p0:Int) (p1:(List Int)):Option (an) :=
 (jj p1).bind fun r1 =>
 if ((r1.length:Int)==0) then
  some (an.mk 0 ([]))
 else
  some (an.mk p0 r1)
def GB:(Int×(List Int))->Option ((Int×(List Int))⊕(((List Int))))
 | (s0b,l4b) =>
  if (s0b != 0) then
   (Ig .i64 s0b 1048576).bind fun x17 =>
   if decide (x17<0) then
    (km 8 l4b [IntKind.i64.wrap (0-x17)]).bind fun x20 =>
    (Bm .i64 s0b 1048576).bind fun x22 =>
    some (.inl (x22,x20))
   else
    (km 8 l4b [x17]).bind fun x24 =>
    (Bm .i64 s0b 1048576).bind fun x26 =>
    some (.inl (x26,x24))
  else
   some (.inr l4b)
def yB (p0:Int):Option (an) :=
 if (p0==0) then
  some (an.mk 0 ([]))
 else
  (if decide (p0<0) then
   some (-1)
  else
   some 1).bind fun s3j1 =>
  (ba (GB) (p0,[])).bind fun l4bx =>
  (ji s3j1 l4bx).bind fun r28 =>
  some r28
def xu (p0:an):(Int)->Option ((Int)⊕((Unit)⊕(Bool)))
 | s3a =>
  if decide (s3a<(p0.aa.length:Int)) then
   (P.idx p0.aa s3a).bind fun x7 =>
   if decide (x7<0) then
    some (.inr (.inr false))
   else
    if decide (x7>=1048576) then
     some (.inr (.inr false))
    else
     some (.inl (IntKind.i64.wrap (s3a+1)))
  else
   some (.inr (.inl ()))
def gM (p0:an):Option (Bool) :=
 (ba (xu p0) 0).bind fun q=>match q with
 | (.inl _) =>
  (if decide (p0.ag<(-1)) then
   some true
  else
   if decide (p0.ag>1) then
    some true
   else
    some (!(((p0.aa.length:Int)==0)==(p0.ag==0)))).bind fun s44j2 =>
  if s44j2 then
   some false
  else
   if ((p0.aa.length:Int)==0) then
    some true
   else
    (P.idx p0.aa (IntKind.i64.wrap ((p0.aa.length:Int)-1))).bind fun x13 =>
    some (x13 != 0)
 | (.inr ra) =>
  some ra
def uI (p0:an):Option (an) :=
 (gM p0).bind fun r1 =>
 if (!r1) then
  some (an.mk 0 ([]))
 else
  (ji (IntKind.i64.wrap (0-p0.ag)) p0.aa).bind fun r3 =>
  some r3
def iB (p0:(List Int)) (p1:Int):Option (Int) :=
 if decide (p1<(p0.length:Int)) then
  (P.idx p0 p1).bind fun x2 =>
  some x2
 else
  some 0
def xx (p0:(List Int)) (p1:(List Int)) (s6a:Int):(Int×Int×(List Int))->Option ((Int×Int×(List Int))⊕(((List Int))))
 | (s7e,s8e,l5e) =>
  (if decide (s8e<(p1.length:Int)) then
   some true
  else
   some (decide (s7e>0))).bind fun s29j7 =>
  if s29j7 then
   (P.idx l5e (IntKind.i64.wrap (s6a+s8e))).bind fun x43 =>
   (P.idx p0 s6a).bind fun x44 =>
   (iB p1 s8e).bind fun r45 =>
   (Ig .i64 (IntKind.i64.wrap ((IntKind.i64.wrap (x43+(IntKind.i64.wrap (x44*r45))))+s7e)) 1048576).bind fun x46 =>
   (Bm .i64 (IntKind.i64.wrap ((IntKind.i64.wrap (x43+(IntKind.i64.wrap (x44*r45))))+s7e)) 1048576).bind fun x49 =>
   some (.inl (x49,IntKind.i64.wrap (s8e+1),(l5e.set (IntKind.i64.wrap (s6a+s8e)).toNat x46)))
  else
   some (.inr l5e)
def xw (p0:(List Int)) (p1:(List Int)):(Int×(List Int))->Option ((Int×(List Int))⊕(((List Int))))
 | (s6a,l5a) =>
  if decide (s6a<(p0.length:Int)) then
   (ba (xx p0 p1 s6a) (0,0,l5a)).bind fun l5ex =>
   some (.inl (IntKind.i64.wrap (s6a+1),l5ex))
  else
   some (.inr l5a)
def nJ (p0:(List Int)) (p1:(List Int)):Option ((List Int)) :=
 (D0 8 (IntKind.i64.wrap ((p0.length:Int)+(p1.length:Int))) (IntKind.i64.wrap ((p0.length:Int)+(p1.length:Int))) 0).bind fun x1 =>
 (ba (xw p0 p1) (0,x1)).bind fun l5ax =>
 (jj l5ax).bind fun r52 =>
 some r52
def zK (p0:(List Int)) (p1:(List Int)):(Int)->Option ((Int)⊕((Unit)⊕(Bool)))
 | s5a =>
  if decide (s5a>=0) then
   (iB p0 s5a).bind fun r7 =>
   (iB p1 s5a).bind fun r8 =>
   if (r7 != r8) then
    some (.inr (.inr (decide (r7<r8))))
   else
    some (.inl (IntKind.i64.wrap (s5a-1)))
  else
   some (.inr (.inl ()))
def tq (p0:(List Int)) (p1:(List Int)):Option (Bool) :=
 (ba (zK p0 p1) (IntKind.i64.wrap ((if (p1.length:Int)>(p0.length:Int) then (p1.length:Int) else (p0.length:Int))-1))).bind fun q=>match q with
 | (.inl _) =>
  some false
 | (.inr ra) =>
  some ra
def xv (p0:(List Int)) (p1:(List Int)):(Int×Int×(List Int))->Option ((Int×Int×(List Int))⊕(((List Int))))
 | (s6a,s7a,l5a) =>
  if decide (s7a<(p0.length:Int)) then
   (P.idx p0 s7a).bind fun x11 =>
   (iB p1 s7a).bind fun r12 =>
   if decide ((IntKind.i64.wrap ((IntKind.i64.wrap (x11-r12))-s6a))<0) then
    (km 8 l5a [IntKind.i64.wrap ((IntKind.i64.wrap ((IntKind.i64.wrap (x11-r12))-s6a))+1048576)]).bind fun x14 =>
    some (.inl (1,IntKind.i64.wrap (s7a+1),x14))
   else
    (km 8 l5a [IntKind.i64.wrap ((IntKind.i64.wrap (x11-r12))-s6a)]).bind fun x16 =>
    some (.inl (0,IntKind.i64.wrap (s7a+1),x16))
  else
   some (.inr l5a)
def nI (p0:(List Int)) (p1:(List Int)):Option ((List Int)) :=
 (ba (xv p0 p1) (0,0,[])).bind fun l5ax =>
 (jj l5ax).bind fun r18 =>
 some r18
def zM (p1:(List Int)) (r34:(List Int)):(Int×Int)->Option ((Int×Int)⊕((Int)))
 | (s9c,s10c) =>
  if decide ((IntKind.i64.wrap (s10c-s9c))>1) then
   (Bm .i64 (IntKind.i64.wrap (s9c+s10c)) 2).bind fun x44 =>
   (nJ p1 ([x44])).bind fun r47 =>
   (tq r34 r47).bind fun r48 =>
   if r48 then
    some (.inl (s9c,x44))
   else
    some (.inl (x44,s10c))
  else
   some (.inr s9c)
def zL (p0:(List Int)) (p1:(List Int)):((List Int)×Int×(List Int))->Option (((List Int)×Int×(List Int))⊕(((List Int)×(List Int))))
 | (s7a,s8a,l6a) =>
  if decide (s8a>=0) then
   (P.idx p0 s8a).bind fun x31 =>
   (km 8 [x31] s7a).bind fun x32 =>
   (jj x32).bind fun r34 =>
   (ba (zM p1 r34) (0,1048576)).bind fun s9cx =>
   (P.idx l6a s8a).bind fun x50 =>
   (jj ([s9cx])).bind fun r53 =>
   (nJ p1 r53).bind fun r54 =>
   (nI r34 r54).bind fun r55 =>
   some (.inl (r55,IntKind.i64.wrap (s8a-1),(l6a.set (s8a).toNat s9cx)))
  else
   some (.inr (s7a,l6a))
def pU (p0:(List Int)) (p1:(List Int)):Option ((List Int)×(List Int)) :=
 (D0 8 (p0.length:Int) (p0.length:Int) 0).bind fun x1 =>
 (ba (zL p0 p1) ([],IntKind.i64.wrap ((p0.length:Int)-1),x1)).bind fun q=>match q with
 | (s7ax,l6ax) =>
  (jj l6ax).bind fun r56 =>
  some (r56,s7ax)
def C0:((List Int)×(List Int))->Option (((List Int)×(List Int))⊕(((List Int))))
 | (s6b,s7b) =>
  if decide ((s7b.length:Int)>0) then
   (pU s6b s7b).bind fun r8 =>
   some (.inl (s7b,r8.2))
  else
   some (.inr s6b)
def xt (p0:an) (p1:an):Option (an×Int) :=
 (gM p0).bind fun r1 =>
 (if (!r1) then
  some true
 else
  (gM p1).bind fun r11 =>
  some (!r11)).bind fun s17j1 =>
 if s17j1 then
  some ((an.mk 0 ([])),1)
 else
  (ba (C0) (p0.aa,p1.aa)).bind fun s6bx =>
  (ji 1 s6bx).bind fun r9 =>
  some (r9,0)
def zN (p0:(List Int)) (p1:(List Int)):(Int×Int×(List Int))->Option ((Int×Int×(List Int))⊕(((List Int))))
 | (s6a,s7a,l5a) =>
  (if decide (s7a<(p0.length:Int)) then
   some true
  else
   if decide (s7a<(p1.length:Int)) then
    some true
   else
    some (decide (s6a>0))).bind fun s22j3 =>
  if s22j3 then
   (iB p0 s7a).bind fun r16 =>
   (iB p1 s7a).bind fun r17 =>
   (Ig .i64 (IntKind.i64.wrap ((IntKind.i64.wrap (r16+r17))+s6a)) 1048576).bind fun x18 =>
   (km 8 l5a [x18]).bind fun x20 =>
   (Bm .i64 (IntKind.i64.wrap ((IntKind.i64.wrap (r16+r17))+s6a)) 1048576).bind fun x22 =>
   some (.inl (x22,IntKind.i64.wrap (s7a+1),x20))
  else
   some (.inr l5a)
def tr (p0:(List Int)) (p1:(List Int)):Option ((List Int)) :=
 (ba (zN p0 p1) (0,0,[])).bind fun l5ax =>
 (jj l5ax).bind fun r26 =>
 some r26
def uH (p0:an) (p1:an):Option (an×an×Int) :=
 (gM p0).bind fun r1 =>
 (if (!r1) then
  some true
 else
  (gM p1).bind fun r17 =>
  some (!r17)).bind fun s16j1 =>
 if s16j1 then
  some ((an.mk 0 ([])),(an.mk 0 ([])),1)
 else
  if (p1.ag==0) then
   some ((an.mk 0 ([])),(an.mk 0 ([])),15)
  else
   (pU p0.aa p1.aa).bind fun r5 =>
   (if decide ((IntKind.i64.wrap (p0.ag*p1.ag))>=0) then
    some true
   else
    some ((r5.2.length:Int)==0)).bind fun s42j2 =>
   if s42j2 then
    (ji (IntKind.i64.wrap (p0.ag*p1.ag)) r5.1).bind fun r8 =>
    (ji p0.ag r5.2).bind fun r9 =>
    some (r8,r9,0)
   else
    (tr r5.1 ([1])).bind fun r11 =>
    (ji (-1) r11).bind fun r12 =>
    (nI p1.aa r5.2).bind fun r13 =>
    (ji p1.ag r13).bind fun r14 =>
    some (r12,r14,0)
def xz (p0:an) (p1:an):Option (al×Int) :=
 (gM p0).bind fun r1 =>
 (if (!r1) then
  some true
 else
  (gM p1).bind fun r13 =>
  some (!r13)).bind fun s21j1 =>
 if s21j1 then
  some ((al.mk (an.mk 0 ([])) (an.mk 0 ([]))),1)
 else
  if (p1.ag==0) then
   some ((al.mk (an.mk 0 ([])) (an.mk 0 ([]))),15)
  else
   (if decide (p1.ag<0) then
    (uI p0).bind fun r10 =>
    (uI p1).bind fun r11 =>
    some (r10.ag,r10.aa,r11.ag,r11.aa)
   else
    some (p0.ag,p0.aa,p1.ag,p1.aa)).bind fun q=>match q with
   | (r2_0j2,r2_1j2,r3_0j2,r3_1j2) =>
    (xt (an.mk r2_0j2 r2_1j2) (an.mk r3_0j2 r3_1j2)).bind fun r6 =>
    (uH (an.mk r2_0j2 r2_1j2) r6.1).bind fun r7 =>
    (uH (an.mk r3_0j2 r3_1j2) r6.1).bind fun r8 =>
    some ((al.mk r7.1 r8.1),0)
def yC (p0:Int) (p1:Int):Option (al×Int) :=
 (yB p0).bind fun r1 =>
 (yB p1).bind fun r2 =>
 (xz r1 r2).bind fun r3 =>
 some (r3.1,r3.2)
def jV (p0:Int) (p1:Int) (p2:Int) (p3:Int):Option (di) :=
 (yC p2 p3).bind fun r1 =>
 some (di.mk p0 p1 r1.1)
def xy (p0:Int):Option (al) :=
 (yC p0 1).bind fun r1 =>
 some r1.1
def zr (p0:(List Int)):(Int×(List al))->Option ((Int×(List al))⊕(((List al))))
 | (s4a,l3a) =>
  if decide (s4a<(p0.length:Int)) then
   (P.idx p0 s4a).bind fun x8 =>
   (xy x8).bind fun r9 =>
   (km 64 l3a [r9]).bind fun x10 =>
   some (.inl (IntKind.i64.wrap (s4a+1),x10))
  else
   some (.inr l3a)
def jU (p0:(List Int)):Option ((List al)) :=
 (ba (zr p0) (0,[])).bind fun l3ax =>
 some l3ax
def gp (p0:Int) (p1:Int) (p2:Int):Option (Bool) :=
 if decide (p0>=p1) then
  some (decide (p0<=p2))
 else
  some false
def nc (p0:an):(Int)->Option ((Int)⊕((Unit)⊕(Bool)))
 | s12a =>
  if decide (s12a<(p0.aa.length:Int)) then
   (P.idx p0.aa s12a).bind fun x7 =>
   if decide (x7<0) then
    some (.inr (.inr false))
   else
    if decide (x7>1048575) then
     some (.inr (.inr false))
    else
     some (.inl (IntKind.i64.wrap (s12a+1)))
  else
   some (.inr (.inl ()))
def ch (p0:an):Option (Bool) :=
 (ba (nc p0) 0).bind fun q=>match q with
 | (.inl _) =>
  if ((p0.aa.length:Int)==0) then
   some (p0.ag==0)
  else
   if (p0.ag==1) then
    (P.idx p0.aa (IntKind.i64.wrap ((p0.aa.length:Int)-1))).bind fun x12 =>
    some (x12 != 0)
   else
    if (p0.ag==(-1)) then
     (P.idx p0.aa (IntKind.i64.wrap ((p0.aa.length:Int)-1))).bind fun x14 =>
     some (x14 != 0)
    else
     some false
 | (.inr ra) =>
  some ra
def dC (p0:Bool) (p1:an):Option (an×Int) :=
 if (!p0) then
  some ((an.mk 0 ([])),1)
 else
  some (p1,0)
def ct (p0:(List Int)):Option (List Int):=km 8 [] p0
def lX (p0:Int):Option (Bool) :=
 some (p0 != p0)
def ee (p0:Int) (p1:Int):Option (Int) :=
 (lX p0).bind fun r1 =>
 (lX p1).bind fun r2 =>
 if r1 then
  if r2 then
   some 0
  else
   some (-1)
 else
  if r2 then
   some 1
  else
   if decide (p0<p1) then
    some (-1)
   else
    if decide (p0>p1) then
     some 1
    else
     some 0
def ld (p0:(List Int)) (p1:(List Int)):(Int)->Option ((Int)⊕((Unit)⊕(Int)))
 | s5a =>
  if decide (s5a>=0) then
   (P.idx p0 s5a).bind fun x10 =>
   (P.idx p1 s5a).bind fun x11 =>
   if (x10 != x11) then
    (ee x10 x11).bind fun r13 =>
    some (.inr (.inr r13))
   else
    some (.inl (IntKind.i64.wrap (s5a-1)))
  else
   some (.inr (.inl ()))
def eE (p0:(List Int)) (p1:(List Int)):Option (Int) :=
 if ((p0.length:Int) != (p1.length:Int)) then
  (ee (p0.length:Int) (p1.length:Int)).bind fun r2 =>
  some r2
 else
  (ba (ld p0 p1) (IntKind.i64.wrap ((p0.length:Int)-1))).bind fun q=>match q with
  | (.inl _) =>
   some 0
  | (.inr ra) =>
   some ra
def mC (p0:(List Int)):(Int)->Option ((Int)⊕((Int)))
 | s3a =>
  if decide (s3a>0) then
   (P.idx p0 (IntKind.i64.wrap (s3a-1))).bind fun x6 =>
   if (x6==0) then
    some (.inl (IntKind.i64.wrap (s3a-1)))
   else
    some (.inr s3a)
  else
   some (.inr s3a)
def dD (p0:(List Int)):Option ((List Int)) :=
 (ba (mC p0) (p0.length:Int)).bind fun s3ax =>
 (Al p0 0 s3ax).bind fun x8 =>
 some x8
def nf (p0:(List Int)) (p1:Int):(Int×Int×(List Int))->Option ((Int×Int×(List Int))⊕((Int×(List Int))))
 | (s7a,s8a,l6a) =>
  if decide (s8a>=0) then
   (D8 .i64 s7a 20).bind fun x15 =>
   (P.idx p0 s8a).bind fun x17 =>
   (Bm .i64 (jR .or .i64 x15 x17) p1).bind fun x18 =>
   (P.idx l6a s8a).bind fun x20 =>
   (Ig .i64 (jR .or .i64 x15 x17) p1).bind fun x22 =>
   some (.inl (x22,IntKind.i64.wrap (s8a-1),(l6a.set (s8a).toNat x18)))
  else
   some (.inr (s7a,l6a))
def kF (p0:(List Int)) (p1:Int):Option ((List Int)×Int) :=
 (D0 8 (p0.length:Int) (p0.length:Int) 0).bind fun x1 =>
 (ba (nf p0 p1) (0,IntKind.i64.wrap ((p0.length:Int)-1),x1)).bind fun q=>match q with
 | (s7ax,l6ax) =>
  (dD l6ax).bind fun r24 =>
  some (r24,s7ax)
def qw (p1:(List Int)) (s20a:Int) (x22:Int):(Int×Int×(List Int))->Option ((Int×Int×(List Int))⊕((Int×(List Int))))
 | (s8c,s27c,l5c) =>
  if decide (s27c<(p1.length:Int)) then
   (P.idx p1 s27c).bind fun x31 =>
   (P.idx l5c (IntKind.i64.wrap (s20a+s27c))).bind fun x32 =>
   (wc .i64 (IntKind.i64.wrap ((IntKind.i64.wrap (x32+(IntKind.i64.wrap (x22*x31))))+s8c)) 20).bind fun x33 =>
   some (.inl (x33,IntKind.i64.wrap (s27c+1),(l5c.set (IntKind.i64.wrap (s20a+s27c)).toNat (jR .and .i64 (IntKind.i64.wrap ((IntKind.i64.wrap (x32+(IntKind.i64.wrap (x22*x31))))+s8c)) 1048575))))
  else
   some (.inr (s8c,l5c))
def qv (p0:(List Int)) (p1:(List Int)):(Int×(List Int))->Option ((Int×(List Int))⊕(((List Int))))
 | (s20a,l5a) =>
  if decide (s20a<(p0.length:Int)) then
   (P.idx p0 s20a).bind fun x22 =>
   (ba (qw p1 s20a x22) (0,0,l5a)).bind fun q=>match q with
   | (s8cx,l5cx) =>
    (P.idx l5cx (IntKind.i64.wrap (s20a+(p1.length:Int)))).bind fun x36 =>
    some (.inl (IntKind.i64.wrap (s20a+1),(l5cx.set (IntKind.i64.wrap (s20a+(p1.length:Int))).toNat (IntKind.i64.wrap (x36+s8cx)))))
  else
   some (.inr l5a)
def nd (p0:(List Int)) (p1:(List Int)):Option ((List Int)) :=
 (D0 8 (IntKind.i64.wrap ((p0.length:Int)+(p1.length:Int))) (IntKind.i64.wrap ((p0.length:Int)+(p1.length:Int))) 0).bind fun x1 =>
 (ba (qv p0 p1) (0,x1)).bind fun l5ax =>
 (dD l5ax).bind fun r39 =>
 some r39
def j7 (p0:(List Int)) (p1:(List Int)) (p2:Int):(Int×Int×(List Int))->Option ((Int×Int×(List Int))⊕((Int×(List Int))))
 | (s7a,s14a,l0a) =>
  if decide (s14a<((p0).length:Int)) then
   (P.idx l0a s14a).bind fun x11 =>
   (if decide (s14a<(p1.length:Int)) then
    (P.idx p1 s14a).bind fun x17 =>
    some (IntKind.i64.wrap ((IntKind.i64.wrap (x11-s7a))-(IntKind.i64.wrap (p2*x17))))
   else
    some (IntKind.i64.wrap (x11-s7a))).bind fun s9j3 =>
   (wc .i64 s9j3 20).bind fun x14 =>
   some (.inl (IntKind.i64.wrap (0-x14),IntKind.i64.wrap (s14a+1),(l0a.set (s14a).toNat (jR .and .i64 s9j3 1048575))))
  else
   some (.inr (s7a,l0a))
def j8 (p1:(List Int)) (l0ax:(List Int)):(Int×Int×(List Int))->Option ((Int×Int×(List Int))⊕(((List Int))))
 | (s10d,s49d,l0d) =>
  if decide (s49d<((l0ax).length:Int)) then
   (P.idx l0d s49d).bind fun x29 =>
   (if decide (s49d<(p1.length:Int)) then
    (P.idx p1 s49d).bind fun x35 =>
    some (IntKind.i64.wrap ((IntKind.i64.wrap (s10d+x29))+x35))
   else
    some (IntKind.i64.wrap (s10d+x29))).bind fun s10j6 =>
   (wc .i64 s10j6 20).bind fun x32 =>
   some (.inl (x32,IntKind.i64.wrap (s49d+1),(l0d.set (s49d).toNat (jR .and .i64 s10j6 1048575))))
  else
   some (.inr l0d)
def nU (p0:(List Int)) (p1:(List Int)) (p2:Int):Option ((List Int)×(Int)) :=
 (ba (j7 p0 p1 p2) (0,0,p0)).bind fun q=>match q with
 | (s7ax,l0ax) =>
  if (s7ax==0) then
   some (l0ax,p2)
  else
   (ba (j8 p1 l0ax) (0,0,l0ax)).bind fun l0dx =>
   some (l0dx,IntKind.i64.wrap (p2-1))
def e9 (p0:(List Int)) (p1:(List Int)) (p2:Int):Option ((List Int)×(Int)):=(nU p0 p1 p2).bind fun r=>if r.1.length=p0.length then some r else none
theorem yr {p0:(List Int)} {p1:(List Int)} {p2:Int} {r:(List Int)×(Int)} (h:e9 p0 p1 p2=some r):r.1.length=p0.length:=by
 unfold e9 at h
 obtain⟨q,hq,h⟩:=ah h
 split at h
 ·cases h;assumption
 ·cases h
def qq (p1:(List Int)):(Int)->Option ((Int)⊕((Int)))
 | s8a =>
  (P.idx p1 (IntKind.i64.wrap ((p1.length:Int)-1))).bind fun x12 =>
  if decide ((IntKind.i64.wrap (x12*s8a))<524288) then
   some (.inl (IntKind.i64.wrap (s8a*2)))
  else
   some (.inr s8a)
def qu (r19:(List Int)) (s13c:Int) (l9c:(List Int)) (x64:Int):(Int×Int)->Option ((Int×Int)⊕((Int)))
 | (s15g,s16g) =>
  (if decide (s15g>=1048576) then
   some true
  else
   if decide (s16g<1048576) then
    (P.idx r19 (IntKind.i64.wrap (((r19).length:Int)-2))).bind fun x83 =>
    (D8 .i64 s16g 20).bind fun x84 =>
    (P.idx l9c (IntKind.i64.wrap ((IntKind.i64.wrap (s13c+((r19).length:Int)))-2))).bind fun x86 =>
    some (decide ((IntKind.i64.wrap (s15g*x83))>(jR .or .i64 x84 x86)))
   else
    some false).bind fun s137j9 =>
  if s137j9 then
   some (.inl (IntKind.i64.wrap (s15g-1),IntKind.i64.wrap (s16g+x64)))
  else
   some (.inr s15g)
def qt (r19:(List Int)):(Int×(List Int)×(List Int))->Option ((Int×(List Int)×(List Int))⊕(((List Int)×(List Int))))
 | (s13c,l9c,l12c) =>
  if decide (s13c>=0) then
   (P.idx l9c (IntKind.i64.wrap (s13c+((r19).length:Int)))).bind fun x60 =>
   (D8 .i64 x60 20).bind fun x61 =>
   (P.idx l9c (IntKind.i64.wrap ((IntKind.i64.wrap (s13c+((r19).length:Int)))-1))).bind fun x63 =>
   (P.idx r19 (IntKind.i64.wrap (((r19).length:Int)-1))).bind fun x64 =>
   (Bm .i64 (jR .or .i64 x61 x63) x64).bind fun x65 =>
   (Ig .i64 (jR .or .i64 x61 x63) x64).bind fun x67 =>
   (ba (qu r19 s13c l9c x64) (x65,x67)).bind fun s15gx =>
   (Al l9c s13c (IntKind.i64.wrap ((IntKind.i64.wrap (s13c+((r19).length:Int)))+1))).bind fun x87 =>
   (e9 x87 r19 s15gx).bind fun r90 =>
   (P.idx l12c s13c).bind fun x92 =>
   some (.inl (IntKind.i64.wrap (s13c-1),(l9c.take (s13c).toNat++(r90.1++l9c.drop (IntKind.i64.wrap ((IntKind.i64.wrap (s13c+((r19).length:Int)))+1)).toNat)),(l12c.set (s13c).toNat r90.2)))
  else
   some (.inr (l9c,l12c))
def oJ (p0:(List Int)) (p1:(List Int)):Option ((List Int)×(List Int)) :=
 (eE p0 p1).bind fun r1 =>
 if decide (r1<0) then
  (ct p0).bind fun r3 =>
  some ([],r3)
 else
  if ((p1.length:Int)==1) then
   (P.idx p1 0).bind fun x5 =>
   (kF p0 x5).bind fun r6 =>
   (dD ([r6.2])).bind fun r8 =>
   some (r6.1,r8)
  else
   (ba (qq p1) 1).bind fun s8ax =>
   (nd p0 ([s8ax])).bind fun r15 =>
   (km 8 r15 [0]).bind fun x16 =>
   (nd p1 ([s8ax])).bind fun r19 =>
   (if (((x16).length:Int)==(p0.length:Int)) then
    (km 8 x16 [0]).bind fun x98 =>
    some x98
   else
    some x16).bind fun l9j2 =>
   (D0 8 (IntKind.i64.wrap (((l9j2).length:Int)-((r19).length:Int))) (IntKind.i64.wrap (((l9j2).length:Int)-((r19).length:Int))) 0).bind fun x21 =>
   (ba (qt r19) (IntKind.i64.wrap (((x21).length:Int)-1),l9j2,x21)).bind fun q=>match q with
   | (l9cx,l12cx) =>
    (dD l9cx).bind fun r94 =>
    (kF r94 s8ax).bind fun r95 =>
    (dD l12cx).bind fun r96 =>
    some (r96,r95.1)
def cn (p0:Int) (p1:(List Int)):Option (an) :=
 (dD p1).bind fun r1 =>
 if ((r1.length:Int)==0) then
  some (an.mk 0 ([]))
 else
  some (an.mk p0 r1)
def nS:((List Int)×(List Int))->Option (((List Int)×(List Int))⊕(((List Int))))
 | (s6b,s7b) =>
  if decide ((s7b.length:Int)>0) then
   (oJ s6b s7b).bind fun r11 =>
   some (.inl (s7b,r11.2))
  else
   some (.inr s6b)
def m9 (p0:an) (p1:an):Option (an×Int) :=
 (ch p0).bind fun r1 =>
 (if (!r1) then
  some true
 else
  (ch p1).bind fun r16 =>
  some (!r16)).bind fun s17j1 =>
 if s17j1 then
  (dC false (an.mk 0 ([]))).bind fun r5 =>
  some (r5.1,r5.2)
 else
  (ct p0.aa).bind fun r6 =>
  (ba (nS) (r6,p1.aa)).bind fun s6bx =>
  (ct s6bx).bind fun r12 =>
  (cn 1 r12).bind fun r13 =>
  (dC true r13).bind fun r14 =>
  some (r14.1,r14.2)
def qo (p0:an):(Int×Int)->Option ((Int×Int)⊕((Int)⊕(Int×Bool)))
 | (s4b,s19b) =>
  if decide (s19b<(p0.aa.length:Int)) then
   (P.idx p0.aa s19b).bind fun x13 =>
   (if (s19b==3) then
    some (decide (x13>8))
   else
    some false).bind fun s29j4 =>
   if s29j4 then
    some (.inr (.inr (0,false)))
   else
    (D8 .u64 (IntKind.u64.wrap x13) (IntKind.i64.wrap (20*s19b))).bind fun x16 =>
    some (.inl (jR .or .u64 s4b x16,IntKind.i64.wrap (s19b+1)))
  else
   some (.inr (.inl s4b))
def qn (p0:an):Option (Int×Bool) :=
 (ch p0).bind fun r1 =>
 (if (!r1) then
  some true
 else
  some (decide ((p0.aa.length:Int)>4))).bind fun s15j1 =>
 if s15j1 then
  some (0,false)
 else
  (ba (qo p0) (0,0)).bind fun q=>match q with
  | (.inl s4bx) =>
   (if decide (p0.ag<0) then
    some (decide (s4bx<=9223372036854775808))
   else
    some false).bind fun s38j5 =>
   if s38j5 then
    some (IntKind.i64.wrap (IntKind.u64.wrap (0-s4bx)),true)
   else
    if decide (p0.ag>=0) then
     if decide (s4bx<9223372036854775808) then
      some (IntKind.i64.wrap s4bx,true)
     else
      some (0,false)
    else
     some (0,false)
  | (.inr rb) =>
   some rb
def oa (p0:an):Option (Bool) :=
 (qn p0).bind fun r1 =>
 if r1.2 then
  some (r1.1==1)
 else
  some false
def bU (p0:al):Option (Bool) :=
 (ch p0.aH).bind fun r1 =>
 (if (!r1) then
  some true
 else
  (ch p0.aK).bind fun r8 =>
  if (!r8) then
   some true
  else
   some (p0.aK.ag != 1)).bind fun s20j1 =>
 if s20j1 then
  some false
 else
  (m9 p0.aH p0.aK).bind fun r4 =>
  if (r4.2==0) then
   (oa r4.1).bind fun r6 =>
   some r6
  else
   some false
def fQ (p0:al):Option (Int) :=
 (bU p0).bind fun r1 =>
 if (!r1) then
  some 0
 else
  some p0.aH.ag
def tW (p0:(List Int)):(Int)->Option ((Int)⊕((Unit)⊕(Int)))
 | s8a =>
  if decide (s8a<(p0.length:Int)) then
   (P.idx p0 s8a).bind fun x6 =>
   if (x6 != 0) then
    some (.inr (.inr x6))
   else
    some (.inl (IntKind.i64.wrap (s8a+1)))
  else
   some (.inr (.inl ()))
def sJ (p0:(List Int)):Option (Int) :=
 (ba (tW p0) 0).bind fun q=>match q with
 | (.inl _) =>
  some 0
 | (.inr ra) =>
  some ra
def kq (p0:di) (p1:di):Option (Int) :=
 (ee p0.de p1.de).bind fun r1 =>
 (ee p0.lN p1.lN).bind fun r2 =>
 (sJ ([r1,r2])).bind fun r4 =>
 some r4
def tT:(Int×(List Int))->Option ((Int×(List Int))⊕(((List Int))))
 | (s4b,l5b) =>
  if decide (s4b>0) then
   (km 8 l5b [IntKind.i64.wrap (jR .and .u64 s4b 1048575)]).bind fun x9 =>
   (wc .u64 s4b 20).bind fun x11 =>
   some (.inl (x11,x9))
  else
   some (.inr l5b)
def sB (p0:Int):Option (an) :=
 (if decide (p0<0) then
  some ((-1),IntKind.u64.wrap (0-(IntKind.u64.wrap p0)))
 else
  some (1,IntKind.u64.wrap p0)).bind fun q=>match q with
 | (s3j1,s4j1) =>
  (ba (tT) (s4j1,[])).bind fun l5bx =>
  (cn s3j1 l5bx).bind fun r13 =>
  some r13
def gH (p0:Int):Option (al) :=
 (sB p0).bind fun r1 =>
 (sB 1).bind fun r2 =>
 some (al.mk r1 r2)
def mi (p0:an):Option (an) :=
 (ch p0).bind fun r1 =>
 if (!r1) then
  some (an.mk 0 ([]))
 else
  (ct p0.aa).bind fun r3 =>
  (cn (IntKind.i64.wrap (0-p0.ag)) r3).bind fun r4 =>
  some r4
def qp (p0:an) (p1:an):Option (an×Int) :=
 (ch p0).bind fun r1 =>
 (if (!r1) then
  some true
 else
  (ch p1).bind fun r10 =>
  some (!r10)).bind fun s13j1 =>
 if s13j1 then
  (dC false (an.mk 0 ([]))).bind fun r5 =>
  some (r5.1,r5.2)
 else
  (nd p0.aa p1.aa).bind fun r6 =>
  (cn (IntKind.i64.wrap (p0.ag*p1.ag)) r6).bind fun r7 =>
  (dC true r7).bind fun r8 =>
  some (r8.1,r8.2)
def bN (p0:an) (p1:an):Option (an) :=
 (qp p0 p1).bind fun r1 =>
 some r1.1
def nT (s0j1:(List Int)) (s1j1:(List Int)):(Int×Int×(List Int))->Option ((Int×Int×(List Int))⊕((Int×(List Int))))
 | (s6b,s22b,l5b) =>
  if decide (s22b<(s0j1.length:Int)) then
   (P.idx s0j1 s22b).bind fun x15 =>
   (if decide (s22b<(s1j1.length:Int)) then
    (P.idx s1j1 s22b).bind fun x22 =>
    some (IntKind.i64.wrap ((IntKind.i64.wrap (s6b+x15))+x22))
   else
    some (IntKind.i64.wrap (s6b+x15))).bind fun s6j4 =>
   (P.idx l5b s22b).bind fun x17 =>
   (wc .i64 s6j4 20).bind fun x19 =>
   some (.inl (x19,IntKind.i64.wrap (s22b+1),(l5b.set (s22b).toNat (jR .and .i64 s6j4 1048575))))
  else
   some (.inr (s6b,l5b))
def oI (p0:(List Int)) (p1:(List Int)):Option ((List Int)) :=
 (if decide ((p0.length:Int)<(p1.length:Int)) then
  some (p1,p0)
 else
  some (p0,p1)).bind fun q=>match q with
 | (s0j1,s1j1) =>
  (D0 8 (IntKind.i64.wrap ((s0j1.length:Int)+1)) (IntKind.i64.wrap ((s0j1.length:Int)+1)) 0).bind fun x2 =>
  (ba (nT s0j1 s1j1) (0,0,x2)).bind fun q=>match q with
  | (s6bx,l5bx) =>
   (P.idx l5bx (s0j1.length:Int)).bind fun x23 =>
   (dD (l5bx.set ((s0j1.length:Int)).toNat s6bx)).bind fun r26 =>
   some r26
def qy (p1:(List Int)) (r1:(List Int)):(Int×Int×(List Int))->Option ((Int×Int×(List Int))⊕(((List Int))))
 | (s6a,s13a,l5a) =>
  if decide (s13a<((r1).length:Int)) then
   (P.idx l5a s13a).bind fun x12 =>
   (if decide (s13a<(p1.length:Int)) then
    (P.idx p1 s13a).bind fun x18 =>
    some (IntKind.i64.wrap ((IntKind.i64.wrap (x12-s6a))-x18))
   else
    some (IntKind.i64.wrap (x12-s6a))).bind fun s8j3 =>
   (wc .i64 s8j3 20).bind fun x14 =>
   some (.inl (jR .and .i64 x14 1,IntKind.i64.wrap (s13a+1),(l5a.set (s13a).toNat (jR .and .i64 s8j3 1048575))))
  else
   some (.inr l5a)
def ng (p0:(List Int)) (p1:(List Int)):Option ((List Int)) :=
 (ct p0).bind fun r1 =>
 (ba (qy p1 r1) (0,0,r1)).bind fun l5ax =>
 (dD l5ax).bind fun r19 =>
 some r19
def qm (p0:an) (p1:an):Option (an×Int) :=
 (ch p0).bind fun r1 =>
 (if (!r1) then
  some true
 else
  (ch p1).bind fun r21 =>
  some (!r21)).bind fun s13j1 =>
 if s13j1 then
  (dC false (an.mk 0 ([]))).bind fun r5 =>
  some (r5.1,r5.2)
 else
  if decide ((IntKind.i64.wrap (p0.ag*p1.ag))>=0) then
   (sJ ([p0.ag,p1.ag])).bind fun r8 =>
   (oI p0.aa p1.aa).bind fun r9 =>
   (cn r8 r9).bind fun r10 =>
   (dC true r10).bind fun r11 =>
   some (r11.1,r11.2)
  else
   (eE p0.aa p1.aa).bind fun r12 =>
   if decide (r12<0) then
    (ng p1.aa p0.aa).bind fun r14 =>
    (cn p1.ag r14).bind fun r15 =>
    (dC true r15).bind fun r16 =>
    some (r16.1,r16.2)
   else
    (ng p0.aa p1.aa).bind fun r17 =>
    (cn p0.ag r17).bind fun r18 =>
    (dC true r18).bind fun r19 =>
    some (r19.1,r19.2)
def mh (p0:an) (p1:an):Option (an×an×Int) :=
 (ch p0).bind fun r1 =>
 (if (!r1) then
  some true
 else
  (ch p1).bind fun r17 =>
  some (!r17)).bind fun s9j1 =>
 if s9j1 then
  some ((an.mk 0 ([])),(an.mk 0 ([])),1)
 else
  if (p1.ag==0) then
   some ((an.mk 0 ([])),(an.mk 0 ([])),15)
  else
   (oJ p0.aa p1.aa).bind fun r5 =>
   (if decide ((IntKind.i64.wrap (p0.ag*p1.ag))<0) then
    some (decide ((r5.2.length:Int)>0))
   else
    some false).bind fun s44j2 =>
   if s44j2 then
    (oI r5.1 ([1])).bind fun r9 =>
    (cn (-1) r9).bind fun r10 =>
    (ng p1.aa r5.2).bind fun r11 =>
    (cn p1.ag r11).bind fun r12 =>
    some (r10,r12,0)
   else
    (cn (IntKind.i64.wrap (p0.ag*p1.ag)) r5.1).bind fun r13 =>
    (cn p0.ag r5.2).bind fun r14 =>
    some (r13,r14,0)
def lq (p0:an) (p1:an):Option (al×Int) :=
 (ch p0).bind fun r1 =>
 (if (!r1) then
  some true
 else
  (ch p1).bind fun r13 =>
  some (!r13)).bind fun s14j1 =>
 if s14j1 then
  some ((al.mk (an.mk 0 ([])) (an.mk 0 ([]))),1)
 else
  if (p1.ag==0) then
   some ((al.mk (an.mk 0 ([])) (an.mk 0 ([]))),15)
  else
   (if decide (p1.ag<0) then
    (mi p0).bind fun r10 =>
    (mi p1).bind fun r11 =>
    some (r10.ag,r10.aa,r11.ag,r11.aa)
   else
    some (p0.ag,p0.aa,p1.ag,p1.aa)).bind fun q=>match q with
   | (r2_0j2,r2_1j2,r3_0j2,r3_1j2) =>
    (m9 (an.mk r2_0j2 r2_1j2) (an.mk r3_0j2 r3_1j2)).bind fun r6 =>
    (mh (an.mk r2_0j2 r2_1j2) r6.1).bind fun r7 =>
    (mh (an.mk r3_0j2 r3_1j2) r6.1).bind fun r8 =>
    some ((al.mk r7.1 r8.1),0)
def jS (p0:al) (p1:al):Option (al×Int) :=
 (bU p0).bind fun r1 =>
 (if (!r1) then
  some true
 else
  (bU p1).bind fun r10 =>
  some (!r10)).bind fun s15j1 =>
 if s15j1 then
  some ((al.mk (an.mk 0 ([])) (an.mk 0 ([]))),1)
 else
  (bN p0.aH p1.aK).bind fun r4 =>
  (bN p1.aH p0.aK).bind fun r5 =>
  (qm r4 r5).bind fun r6 =>
  (bN p0.aK p1.aK).bind fun r7 =>
  (lq r6.1 r7).bind fun r8 =>
  some (r8.1,r8.2)
def mH (p0:al) (p1:al):Option (al×Int) :=
 (bU p0).bind fun r1 =>
 (if (!r1) then
  some true
 else
  (bU p1).bind fun r7 =>
  some (!r7)).bind fun s13j1 =>
 if s13j1 then
  some ((al.mk (an.mk 0 ([])) (an.mk 0 ([]))),1)
 else
  (mi p1.aH).bind fun r4 =>
  (jS p0 (al.mk r4 p1.aK)).bind fun r5 =>
  some (r5.1,r5.2)
def lz (x1:(List al)):(Int×(List al))->Option ((Int×(List al))⊕(((List al))))
 | (s12a,l3a) =>
  if decide (s12a<((x1).length:Int)) then
   (gH 1).bind fun r9 =>
   (P.idx l3a s12a).bind fun x10 =>
   some (.inl (IntKind.i64.wrap (s12a+1),(l3a.set (s12a).toNat r9)))
  else
   some (.inr l3a)
def lA (p0:bW):(Int×(List al))->Option ((Int×(List al))⊕(((List al))))
 | (s23b,l3b) =>
  if decide (s23b<(p0.ax.length:Int)) then
   (P.idx p0.ax s23b).bind fun x19 =>
   (P.idx l3b x19.de).bind fun x20 =>
   (mH x20 x19.bg).bind fun r21 =>
   some (.inl (IntKind.i64.wrap (s23b+1),(l3b.set (x19.de).toNat r21.1)))
  else
   some (.inr l3b)
def kK (p0:bW):Option ((List al)) :=
 (D0 64 p0.aF p0.aF (al.mk (an.mk 0 ([])) (an.mk 0 ([])))).bind fun x1 =>
 (ba (lz x1) (0,x1)).bind fun l3ax =>
 (ba (lA p0) (0,l3ax)).bind fun l3bx =>
 some l3bx
def kJ (p0:al):Option (Bool) :=
 (fQ p0).bind fun r1 =>
 some (decide (r1<0))
def cS (p0:(List al)):(Int)->Option ((Int)⊕((Unit)⊕(Int)))
 | s8a =>
  if decide (s8a<(p0.length:Int)) then
   (P.idx p0 s8a).bind fun x7 =>
   (kJ x7).bind fun r8 =>
   if r8 then
    some (.inr (.inr s8a))
   else
    some (.inl (IntKind.i64.wrap (s8a+1)))
  else
   some (.inr (.inl ()))
def bX (p0:(List al)):Option (Int) :=
 (ba (cS p0) 0).bind fun q=>match q with
 | (.inl _) =>
  some (-1)
 | (.inr ra) =>
  some ra
def bs (p0:(List al)):Option (Bool) :=
 (bX p0).bind fun r1 =>
 some (decide (r1>=0))
def ly (p0:bW):(Int)->Option ((Int)⊕((Unit)⊕(Bool)))
 | s18b =>
  if decide (s18b<(p0.ax.length:Int)) then
   (P.idx p0.ax s18b).bind fun x21 =>
   (gp x21.de 0 (IntKind.i64.wrap (p0.aF-1))).bind fun r22 =>
   (if (!r22) then
    some true
   else
    (gp x21.lN 0 (IntKind.i64.wrap (p0.aF-1))).bind fun r30 =>
    if (!r30) then
     some true
    else
     (bU x21.bg).bind fun r32 =>
     if (!r32) then
      some true
     else
      (fQ x21.bg).bind fun r34 =>
      some (decide (r34<=0))).bind fun s50j4 =>
   if s50j4 then
    some (.inr (.inr false))
   else
    if decide (s18b>0) then
     (P.idx p0.ax (IntKind.i64.wrap (s18b-1))).bind fun x26 =>
     (kq x26 x21).bind fun r27 =>
     if decide (r27>=0) then
      some (.inr (.inr false))
     else
      some (.inl (IntKind.i64.wrap (s18b+1)))
    else
     some (.inl (IntKind.i64.wrap (s18b+1)))
  else
   some (.inr (.inl ()))
def jE (p0:bW):Option (Bool) :=
 (gp p0.aF 0 2000).bind fun r1 =>
 (if (!r1) then
  some true
 else
  some (decide ((p0.ax.length:Int)>8000))).bind fun s14j1 =>
 if s14j1 then
  some false
 else
  (ba (ly p0) 0).bind fun q=>match q with
  | (.inl _) =>
   (kK p0).bind fun r35 =>
   (bs r35).bind fun r36 =>
   some (!r36)
  | (.inr rb) =>
   some rb
def fS (p0:al):Option (Bool) :=
 (bU p0).bind fun r1 =>
 some (!r1)
def ck (p0:(List al)):(Int)->Option ((Int)⊕((Unit)⊕(Int)))
 | s8a =>
  if decide (s8a<(p0.length:Int)) then
   (P.idx p0 s8a).bind fun x7 =>
   (fS x7).bind fun r8 =>
   if r8 then
    some (.inr (.inr s8a))
   else
    some (.inl (IntKind.i64.wrap (s8a+1)))
  else
   some (.inr (.inl ()))
def bL (p0:(List al)):Option (Int) :=
 (ba (ck p0) 0).bind fun q=>match q with
 | (.inl _) =>
  some (-1)
 | (.inr ra) =>
  some ra
def bu (p0:(List al)):Option (Bool) :=
 (bL p0).bind fun r1 =>
 some (decide (r1>=0))
def eA (p0:(List al)) (p1:Int):Option (Bool) :=
 if ((p0.length:Int)==p1) then
  (bu p0).bind fun r2 =>
  some (!r2)
 else
  some false
def jA (p0:bW):(Int×(List (List Int)))->Option ((Int×(List (List Int)))⊕(((List (List Int)))))
 | (s22a,l18a) =>
  if decide (s22a<(p0.ax.length:Int)) then
   (P.idx p0.ax s22a).bind fun x13 =>
   (P.idx l18a x13.lN).bind fun x14 =>
   (km 8 x14 [x13.de]).bind fun x15 =>
   some (.inl (IntKind.i64.wrap (s22a+1),(l18a.set (x13.lN).toNat x15)))
  else
   some (.inr l18a)
def jB (r20:(List al)):(Int×(List Int)×(List Int))->Option ((Int×(List Int)×(List Int))⊕(((List Int)×(List Int))))
 | (s46b,l6b,l7b) =>
  if decide (s46b<(r20.length:Int)) then
   (P.idx r20 s46b).bind fun x33 =>
   (P.idx l6b s46b).bind fun x34 =>
   (fQ x33).bind fun r36 =>
   if decide (r36>0) then
    (P.idx (l6b.set (s46b).toNat (-1)) s46b).bind fun x38 =>
    (km 8 l7b [s46b]).bind fun x40 =>
    some (.inl (IntKind.i64.wrap (s46b+1),((l6b.set (s46b).toNat (-1)).set (s46b).toNat 0),x40))
   else
    some (.inl (IntKind.i64.wrap (s46b+1),(l6b.set (s46b).toNat (-1)),l7b))
  else
   some (.inr (l6b,l7b))
def jD (x66:Int) (x69:(List Int)):(Int×(List Int)×(List Int))->Option ((Int×(List Int)×(List Int))⊕(((List Int)×(List Int))))
 | (s78e,l6e,l7e) =>
  if decide (s78e<((x69).length:Int)) then
   (P.idx x69 s78e).bind fun x80 =>
   (P.idx l6e x80).bind fun x81 =>
   if (x81==(-1)) then
    (P.idx l6e x66).bind fun x83 =>
    (km 8 l7e [x80]).bind fun x85 =>
    some (.inl (IntKind.i64.wrap (s78e+1),(l6e.set (x80).toNat (IntKind.i64.wrap (x83+1))),x85))
   else
    some (.inl (IntKind.i64.wrap (s78e+1),l6e,l7e))
  else
   some (.inr (l6e,l7e))
def jC (l18ax:(List (List Int))):((List Int)×(List Int))->Option (((List Int)×(List Int))⊕(((List Int))))
 | (l6c,l7c) =>
  if decide (((l7c).length:Int)>0) then
   (P.idx l7c 0).bind fun x66 =>
   (Al l7c 1 (l7c.length:Int)).bind fun x67 =>
   (P.idx l18ax x66).bind fun x69 =>
   (ba (jD x66 x69) (0,l6c,x67)).bind fun q=>match q with
   | (l6ex,l7ex) =>
    some (.inl (l6ex,l7ex))
  else
   some (.inr l6c)
def iy (p0:bW):Option ((List Int)) :=
 (jE p0).bind fun r1 =>
 if (!r1) then
  some ([])
 else
  (D0 24 p0.aF p0.aF ([])).bind fun x3 =>
  (ba (jA p0) (0,x3)).bind fun l18ax =>
  (D0 8 p0.aF p0.aF 0).bind fun x18 =>
  (kK p0).bind fun r20 =>
  (ba (jB r20) (0,x18,[])).bind fun q=>match q with
  | (l6bx,l7bx) =>
   (ba (jC l18ax) (l6bx,l7bx)).bind fun l6cx =>
   some l6cx
def gJ (r1:(List Int)):(Int×(List Int))->Option ((Int×(List Int))⊕(((List Int))))
 | (s9a,l3a) =>
  if decide (s9a<(r1.length:Int)) then
   (P.idx r1 s9a).bind fun x9 =>
   if (x9==(-1)) then
    (km 8 l3a [s9a]).bind fun x11 =>
    some (.inl (IntKind.i64.wrap (s9a+1),x11))
   else
    some (.inl (IntKind.i64.wrap (s9a+1),l3a))
  else
   some (.inr l3a)
def gS (p0:bW):Option ((List Int)) :=
 (iy p0).bind fun r1 =>
 (ba (gJ r1) (0,[])).bind fun l3ax =>
 some l3ax
def fB (p1:(List al)) (x1:(List aw)):(Int×(List aw))->Option ((Int×(List aw))⊕(((List aw))))
 | (s14a,l11a) =>
  if decide (s14a<((x1).length:Int)) then
   (P.idx p1 s14a).bind fun x10 =>
   (P.idx l11a s14a).bind fun x11 =>
   some (.inl (IntKind.i64.wrap (s14a+1),(l11a.set (s14a).toNat (aw.mk x10 x11.bl))))
  else
   some (.inr l11a)
def fC (p0:bW):(Int×(List aw))->Option ((Int×(List aw))⊕(((List aw))))
 | (s29b,l11b) =>
  if decide (s29b<(p0.ax.length:Int)) then
   (P.idx p0.ax s29b).bind fun x24 =>
   (P.idx l11b x24.lN).bind fun x25 =>
   (km 72 x25.bl [(du.mk x24.de x24.bg)]).bind fun x27 =>
   some (.inl (IntKind.i64.wrap (s29b+1),(l11b.set (x24.lN).toNat (aw.mk x25.aP x27))))
  else
   some (.inr l11b)
def cw (p0:bW) (p1:(List al)):Option ((List aw)) :=
 (D0 88 p0.aF p0.aF (aw.mk (al.mk (an.mk 0 ([])) (an.mk 0 ([]))) ([]))).bind fun x1 =>
 (ba (fB p1 x1) (0,x1)).bind fun l11ax =>
 (ba (fC p0) (0,l11ax)).bind fun l11bx =>
 some l11bx
def cf (p0:du) (p1:Int):Option (Int) :=
 (ee p0.kn p1).bind fun r1 =>
 some r1
def bz (p0:(List du)) (p1:Int):(Int×Int)->Option ((Int×Int)⊕((Int)))
 | (s9a,s10a) =>
  if decide (s9a<s10a) then
   (wc .u64 (IntKind.u64.wrap (IntKind.i64.wrap (s9a+s10a))) 1).bind fun x9 =>
   (P.idx p0 (IntKind.i64.wrap x9)).bind fun x11 =>
   (cf x11 p1).bind fun r12 =>
   if decide (r12<0) then
    some (.inl (IntKind.i64.wrap ((IntKind.i64.wrap x9)+1),s10a))
   else
    some (.inl (s9a,IntKind.i64.wrap x9))
  else
   some (.inr s9a)
def aQ (p0:(List du)) (p1:Int):Option (Int×Bool) :=
 (ba (bz p0 p1) (0,(p0.length:Int))).bind fun s9ax =>
 if decide (s9ax<(p0.length:Int)) then
  (P.idx p0 s9ax).bind fun x15 =>
  (cf x15 p1).bind fun r16 =>
  some (s9ax,(r16==0))
 else
  some (s9ax,false)
def cg (p0:aw) (p1:Int):Option (aw×(Int×Bool)) :=
 (aQ p0.bl p1).bind fun r1 =>
 some (p0,(r1.1,r1.2))
def fl (p0:(List du)) (p1 p2:Int):Option (List du):=UF p0 p1 p2
def ln (p0:al) (p1:al):Option (al×Int) :=
 (bU p0).bind fun r1 =>
 (if (!r1) then
  some true
 else
  (bU p1).bind fun r9 =>
  some (!r9)).bind fun s6j1 =>
 if s6j1 then
  some ((al.mk (an.mk 0 ([])) (an.mk 0 ([]))),1)
 else
  if (p1.aH.ag==0) then
   some ((al.mk (an.mk 0 ([])) (an.mk 0 ([]))),15)
  else
   (bN p0.aH p1.aK).bind fun r5 =>
   (bN p0.aK p1.aH).bind fun r6 =>
   (lq r5 r6).bind fun r7 =>
   some (r7.1,r7.2)
def dG (r8:al×Int) (r10:(List du)):(Int×(List du))->Option ((Int×(List du))⊕(((List du))))
 | (s58a,r0_4a) =>
  if decide (s58a<((r10).length:Int)) then
   (P.idx r0_4a s58a).bind fun x21 =>
   (ln x21.dx r8.1).bind fun r23 =>
   some (.inl (IntKind.i64.wrap (s58a+1),(r0_4a.set (s58a).toNat (du.mk x21.kn r23.1))))
  else
   some (.inr r0_4a)
def cT (p0:aw) (p1:Int):Option (aw×(Unit)) :=
 (cg p0 p1).bind fun r2 =>
 if (!r2.2.2) then
  some (r2.1,())
 else
  (gH 1).bind fun r5 =>
  (P.idx r2.1.bl r2.2.1).bind fun x6 =>
  (mH r5 x6.dx).bind fun r8 =>
  (fl r2.1.bl r2.2.1 (IntKind.i64.wrap (r2.2.1+1))).bind fun r10 =>
  (ln r2.1.aP r8.1).bind fun r12 =>
  (ba (dG r8 r10) (0,r10)).bind fun r0_4ax =>
  some ((aw.mk r12.1 r0_4ax),())
def lp (p0:al) (p1:al):Option (al×Int) :=
 (bU p0).bind fun r1 =>
 (if (!r1) then
  some true
 else
  (bU p1).bind fun r8 =>
  some (!r8)).bind fun s13j1 =>
 if s13j1 then
  some ((al.mk (an.mk 0 ([])) (an.mk 0 ([]))),1)
 else
  (bN p0.aH p1.aH).bind fun r4 =>
  (bN p0.aK p1.aK).bind fun r5 =>
  (lq r4 r5).bind fun r6 =>
  some (r6.1,r6.2)
def eW (p0:al) (p1:al) (p2:al):Option (al) :=
 (lp p1 p2).bind fun r1 =>
 (jS p0 r1.1).bind fun r2 =>
 some r2.1
def dy (p0:aw) (p1:Int) (p2:al):Option (aw×(Unit)) :=
 (cg p0 p1).bind fun r2 =>
 if r2.2.2 then
  (P.idx r2.1.bl r2.2.1).bind fun x5 =>
  (gH 1).bind fun r7 =>
  (eW x5.dx p2 r7).bind fun r8 =>
  some ((aw.mk r2.1.aP (r2.1.bl.set (r2.2.1).toNat (du.mk x5.kn r8))),())
 else
  (Vm 72 r2.1.bl r2.2.1 [(du.mk p1 p2)]).bind fun x11 =>
  some ((aw.mk r2.1.aP x11),())
def eh (p2:aw) (x5:du):(Int×Int×(List Int)×Int×(List Int)×(List du))->Option ((Int×Int×(List Int)×Int×(List Int)×(List du))⊕((Int×(List Int)×Int×(List Int)×(List du))))
 | (s52a,r0_0a,r0_1a,r0_2a,r0_3a,r0_4a) =>
  if decide (s52a<(p2.bl.length:Int)) then
   (P.idx p2.bl s52a).bind fun x20 =>
   (gH 0).bind fun r21 =>
   (eW r21 x5.dx x20.dx).bind fun r22 =>
   (dy (aw.mk (al.mk (an.mk r0_0a r0_1a) (an.mk r0_2a r0_3a)) r0_4a) x20.kn r22).bind fun r24 =>
   some (.inl (IntKind.i64.wrap (s52a+1),r24.1.aP.aH.ag,r24.1.aP.aH.aa,r24.1.aP.aK.ag,r24.1.aP.aK.aa,r24.1.bl))
  else
   some (.inr (r0_0a,r0_1a,r0_2a,r0_3a,r0_4a))
def dz (p0:aw) (p1:Int) (p2:aw):Option (aw×(Unit)) :=
 (cg p0 p1).bind fun r2 =>
 if (!r2.2.2) then
  some (r2.1,())
 else
  (P.idx r2.1.bl r2.2.1).bind fun x5 =>
  (fl r2.1.bl r2.2.1 (IntKind.i64.wrap (r2.2.1+1))).bind fun r8 =>
  (eW r2.1.aP x5.dx p2.aP).bind fun r10 =>
  (ba (eh p2 x5) (0,r10.aH.ag,r10.aH.aa,r10.aK.ag,r10.aK.aa,r8)).bind fun q=>match q with
  | (r0_0ax,r0_1ax,r0_2ax,r0_3ax,r0_4ax) =>
   some ((aw.mk (al.mk (an.mk r0_0ax r0_1ax) (an.mk r0_2ax r0_3ax)) r0_4ax),())
def kQ (s35b:Int):(Int×(List (Bool×aw)))->Option ((Int×(List (Bool×aw)))⊕(((List (Bool×aw)))))
 | (s8d,l32d) =>
  if decide (s8d<((l32d).length:Int)) then
   (P.idx l32d s8d).bind fun x50 =>
   (P.idx l32d s35b).bind fun x51 =>
   (M8 x51).bind fun x52 =>
   (ME x50).bind fun x54 =>
   (dz x54 s35b x52).bind fun r56 =>
   some (.inl (IntKind.i64.wrap (s8d+1),(l32d.set (s8d).toNat (false,r56.1))))
  else
   some (.inr l32d)
def jk (r6:(List aw)):(Int×(List (Bool×aw)))->Option ((Int×(List (Bool×aw)))⊕(((List (Bool×aw)))))
 | (s35b,l32b) =>
  if decide (s35b<((r6).length:Int)) then
   (P.idx l32b s35b).bind fun x34 =>
   (ME x34).bind fun x35 =>
   (cT x35 s35b).bind fun r37 =>
   (ba (kQ s35b) (IntKind.i64.wrap (s35b+1),(l32b.set (s35b).toNat (true,r37.1)))).bind fun l32dx =>
   some (.inl (IntKind.i64.wrap (s35b+1),l32dx))
  else
   some (.inr l32b)
def mR (l9e:(List al)) (x81:aw):(Int×Int×(List Int)×Int×(List Int))->Option ((Int×Int×(List Int)×Int×(List Int))⊕((Int×(List Int)×Int×(List Int))))
 | (s85g,r11_0g,r11_1g,r11_2g,r11_3g) =>
  if decide (s85g<(x81.bl.length:Int)) then
   (P.idx x81.bl s85g).bind fun x92 =>
   (P.idx l9e x92.kn).bind fun x93 =>
   (eW (al.mk (an.mk r11_0g r11_1g) (an.mk r11_2g r11_3g)) x92.dx x93).bind fun r94 =>
   some (.inl (IntKind.i64.wrap (s85g+1),r94.aH.ag,r94.aH.aa,r94.aK.ag,r94.aK.aa))
  else
   some (.inr (r11_0g,r11_1g,r11_2g,r11_3g))
def jl (l32bx:(List (Bool×aw))):(Int×(List al))->Option ((Int×(List al))⊕(((List al))))
 | (s10e,l9e) =>
  if decide (s10e>=0) then
   (P.idx l32bx s10e).bind fun x80 =>
   (M8 x80).bind fun x81 =>
   (gH 0).bind fun r83 =>
   (eW x81.aP r83 r83).bind fun r84 =>
   (ba (mR l9e x81) (0,r84.aH.ag,r84.aH.aa,r84.aK.ag,r84.aK.aa)).bind fun q=>match q with
   | (r11_0gx,r11_1gx,r11_2gx,r11_3gx) =>
    (P.idx l9e s10e).bind fun x95 =>
    some (.inl (IntKind.i64.wrap (s10e-1),(l9e.set (s10e).toNat (al.mk (an.mk r11_0gx r11_1gx) (an.mk r11_2gx r11_3gx)))))
  else
   some (.inr l9e)
def dV (p0:bW) (p1:(List al)):Option ((List al)×Int) :=
 (jE p0).bind fun r1 =>
 (if (!r1) then
  some true
 else
  (eA p1 p0.aF).bind fun r98 =>
  some (!r98)).bind fun s14j1 =>
 if s14j1 then
  some ([],1)
 else
  (gS p0).bind fun r4 =>
  if decide ((r4.length:Int)>0) then
   some ([],24)
  else
   (cw p0 p1).bind fun r6 =>
   (ba (jk r6) (0,(FA r6))).bind fun l32bx =>
   (D0 64 p0.aF p0.aF (al.mk (an.mk 0 ([])) (an.mk 0 ([])))).bind fun x58 =>
   (ba (jl l32bx) (IntKind.i64.wrap (((l32bx).length:Int)-1),x58)).bind fun l9ex =>
   some (l9ex,0)
def lH (p0:an) (p1:an):(Int)->Option ((Int)⊕((Unit)⊕(Bool)))
 | s5b =>
  if decide (s5b<(p0.aa.length:Int)) then
   (P.idx p0.aa s5b).bind fun x9 =>
   (P.idx p1.aa s5b).bind fun x10 =>
   if (x9 != x10) then
    some (.inr (.inr false))
   else
    some (.inl (IntKind.i64.wrap (s5b+1)))
  else
   some (.inr (.inl ()))
def gW (p0:an) (p1:an):Option (Bool) :=
 (if (p0.ag != p1.ag) then
  some true
 else
  some ((p0.aa.length:Int) != (p1.aa.length:Int))).bind fun s19j1 =>
 if s19j1 then
  some false
 else
  (ba (lH p0 p1) 0).bind fun q=>match q with
  | (.inl _) =>
   some true
  | (.inr rb) =>
   some rb
def j0 (p0:al) (p1:al):Option (Bool) :=
 (gW p0.aH p1.aH).bind fun r1 =>
 if r1 then
  (gW p0.aK p1.aK).bind fun r3 =>
  some r3
 else
  some false
def zP (p0:(List al)) (p1:(List al)):(Int)->Option ((Int)⊕((Unit)⊕(Bool)))
 | s5a =>
  if decide (s5a<(p0.length:Int)) then
   (P.idx p0 s5a).bind fun x9 =>
   (P.idx p1 s5a).bind fun x10 =>
   (j0 x9 x10).bind fun r11 =>
   if (!r11) then
    some (.inr (.inr false))
   else
    some (.inl (IntKind.i64.wrap (s5a+1)))
  else
   some (.inr (.inl ()))
def tu (p0:(List al)) (p1:(List al)):Option (Bool) :=
 if ((p0.length:Int) != (p1.length:Int)) then
  some false
 else
  (ba (zP p0 p1) 0).bind fun q=>match q with
  | (.inl _) =>
   some true
  | (.inr ra) =>
   some ra
def iV (p0:an) (p1:an):Option (Int) :=
 (ch p0).bind fun r1 =>
 (if (!r1) then
  some true
 else
  (ch p1).bind fun r8 =>
  some (!r8)).bind fun s12j1 =>
 if s12j1 then
  some 0
 else
  if (p0.ag != p1.ag) then
   (ee p0.ag p1.ag).bind fun r5 =>
   some r5
  else
   (eE p0.aa p1.aa).bind fun r6 =>
   some (IntKind.i64.wrap (p0.ag*r6))
def fW (p0:al) (p1:al):Option (Int) :=
 (bU p0).bind fun r1 =>
 (if (!r1) then
  some true
 else
  (bU p1).bind fun r8 =>
  some (!r8)).bind fun s12j1 =>
 if s12j1 then
  some 0
 else
  (bN p0.aH p1.aK).bind fun r4 =>
  (bN p1.aH p0.aK).bind fun r5 =>
  (iV r4 r5).bind fun r6 =>
  some r6
def tD (p2:(List al)) (x21:aw):(Int×Int×(List Int)×Int×(List Int))->Option ((Int×Int×(List Int)×Int×(List Int))⊕((Int×(List Int)×Int×(List Int))))
 | (s43d,r9_0d,r9_1d,r9_2d,r9_3d) =>
  if decide (s43d<(x21.bl.length:Int)) then
   (P.idx x21.bl s43d).bind fun x28 =>
   (P.idx p2 x28.kn).bind fun x29 =>
   (eW (al.mk (an.mk r9_0d r9_1d) (an.mk r9_2d r9_3d)) x28.dx x29).bind fun r30 =>
   some (.inl (IntKind.i64.wrap (s43d+1),r30.aH.ag,r30.aH.aa,r30.aK.ag,r30.aK.aa))
  else
   some (.inr (r9_0d,r9_1d,r9_2d,r9_3d))
def tC (p2:(List al)) (r4:(List aw)):(Int)->Option ((Int)⊕((Unit)⊕(Bool)))
 | s33b =>
  if decide (s33b<(r4.length:Int)) then
   (P.idx r4 s33b).bind fun x21 =>
   (ba (tD p2 x21) (0,x21.aP.aH.ag,x21.aP.aH.aa,x21.aP.aK.ag,x21.aP.aK.aa)).bind fun q=>match q with
   | (r9_0dx,r9_1dx,r9_2dx,r9_3dx) =>
    (P.idx p2 s33b).bind fun x31 =>
    (fW (al.mk (an.mk r9_0dx r9_1dx) (an.mk r9_2dx r9_3dx)) x31).bind fun r32 =>
    if (r32 != 0) then
     some (.inr (.inr false))
    else
     some (.inl (IntKind.i64.wrap (s33b+1)))
  else
   some (.inr (.inl ()))
def kP (p0:bW) (p1:(List al)) (p2:(List al)):Option (Bool) :=
 (jE p0).bind fun r1 =>
 (if (!r1) then
  some true
 else
  (eA p1 p0.aF).bind fun r35 =>
  if (!r35) then
   some true
  else
   (eA p2 p0.aF).bind fun r37 =>
   some (!r37)).bind fun s28j1 =>
 if s28j1 then
  some false
 else
  (cw p0 p1).bind fun r4 =>
  (ba (tC p2 r4) 0).bind fun q=>match q with
  | (.inl _) =>
   some true
  | (.inr rb) =>
   some rb
def mI (p0:bW) (p1:(List Int)) (p2:(List Int)):Option (Bool) :=
 (jU p1).bind fun r1 =>
 (dV p0 r1).bind fun r2 =>
 if (r2.2==0) then
  (jU p2).bind fun r4 =>
  (tu r2.1 r4).bind fun r5 =>
  if r5 then
   (kP p0 r1 r2.1).bind fun r7 =>
   some r7
  else
   some false
 else
  some false
def nF:Option (Bool) :=
 (jV 0 1 1 2).bind fun r1 =>
 (jV 1 0 1 2).bind fun r2 =>
 (jV 0 1 1 1).bind fun r3 =>
 (jV 1 2 1 3).bind fun r4 =>
 (jV 0 0 3 4).bind fun r5 =>
 (jV 1 0 1 1).bind fun r6 =>
 (jU ([1,0])).bind fun r8 =>
 (dV (bW.mk 2 ([r3,r6])) r8).bind fun r10 =>
 (jU ([1])).bind fun r12 =>
 (dV (bW.mk 2 ([r1,r2])) r12).bind fun r14 =>
 (mI (bW.mk 2 ([r1,r2])) ([30,0]) ([40,20])).bind fun r16 =>
 (if r16 then
  (mI (bW.mk 3 ([r3,r4])) ([6,3,0]) ([6,9,3])).bind fun r29 =>
  if r29 then
   (mI (bW.mk 1 ([r5])) ([1]) ([4])).bind fun r32 =>
   if r32 then
    (mI (bW.mk 0 ([])) ([]) ([])).bind fun r35 =>
    some r35
   else
    some false
  else
   some false
 else
  some false).bind fun s9j1 =>
 if s9j1 then
  if (r10.2==24) then
   if (r14.2==1) then
    (jU ([30,0])).bind fun r22 =>
    (jU ([40,21])).bind fun r24 =>
    (kP (bW.mk 2 ([r1,r2])) r22 r24).bind fun r26 =>
    some (!r26)
   else
    some false
  else
   some false
 else
  some false
def nD (p0:al) (p1:Int):Option (Bool) :=
 if decide ((p0.aH.aa.length:Int)<=p1) then
  some (decide ((p0.aK.aa.length:Int)<=p1))
 else
  some false
def my (p0:bW):(Int)->Option ((Int)⊕((Unit)⊕(Bool)))
 | s3a =>
  (if decide (s3a<(p0.ax.length:Int)) then
   some (decide (s3a<40))
  else
   some false).bind fun s12j3 =>
  if s12j3 then
   (P.idx p0.ax s3a).bind fun x10 =>
   (nD x10.bg 6).bind fun r11 =>
   if (!r11) then
    some (.inr (.inr false))
   else
    some (.inl (IntKind.i64.wrap (s3a+1)))
  else
   some (.inr (.inl ()))
def kv (p0:bW):Option (Bool) :=
 (ba (my p0) 0).bind fun q=>match q with
 | (.inl _) =>
  if decide (p0.aF<=12) then
   some (decide ((p0.ax.length:Int)<=40))
  else
   if decide (p0.aF>2000) then
    some (decide ((p0.ax.length:Int)<=40))
   else
    some false
 | (.inr ra) =>
  some ra
def ru (p0:(List al)) (p1:Int):(Int)->Option ((Int)⊕((Unit)⊕(Bool)))
 | s5a =>
  (if decide (s5a<(p0.length:Int)) then
   some (decide (s5a<=14))
  else
   some false).bind fun s13j3 =>
  if s13j3 then
   (P.idx p0 s5a).bind fun x10 =>
   (nD x10 p1).bind fun r11 =>
   if (!r11) then
    some (.inr (.inr false))
   else
    some (.inl (IntKind.i64.wrap (s5a+1)))
  else
   some (.inr (.inl ()))
def pj (p0:(List al)) (p1:Int):Option (Bool) :=
 (ba (ru p0 p1) 0).bind fun q=>match q with
 | (.inl _) =>
  some (decide ((p0.length:Int)<=14))
 | (.inr ra) =>
  some ra
def qZ (p0:bW) (p1:(List al)):Option (Bool) :=
 (kv p0).bind fun r1 =>
 if r1 then
  (pj p1 4).bind fun r3 =>
  some r3
 else
  some false
def gZ (p1:(List al)) (p2:(List al)) (p3:al):(Bool×Int×(List al)×(List al))->Option ((Bool×Int×(List al)×(List al))⊕((Bool×(List al)×(List al))))
 | (s16d,s17d,l14d,l15d) =>
  if decide (s17d<(p1.length:Int)) then
   (P.idx p1 s17d).bind fun x24 =>
   (P.idx p2 s17d).bind fun x25 =>
   (jS x24 x25).bind fun r26 =>
   (lp x24 p3).bind fun r27 =>
   (km 64 l14d [r26.1]).bind fun x28 =>
   (km 64 l15d [r27.1]).bind fun x30 =>
   if s16d then
    (fQ x25).bind fun r33 =>
    some (.inl (decide (r33>=0),IntKind.i64.wrap (s17d+1),x28,x30))
   else
    some (.inl (false,IntKind.i64.wrap (s17d+1),x28,x30))
  else
   some (.inr (s16d,l14d,l15d))
def g9 (p3:al) (r5:(List al)×Int) (r6:(List al)×Int) (s16dx:Bool) (r34:(List al)×Int) (r35:(List al)×Int):(Int)->Option ((Int)⊕((Unit)⊕(Bool)))
 | s26f =>
  if decide (s26f<(r5.1.length:Int)) then
   (P.idx r5.1 s26f).bind fun x56 =>
   (P.idx r6.1 s26f).bind fun x57 =>
   (jS x56 x57).bind fun r58 =>
   (lp x56 p3).bind fun r59 =>
   (P.idx r34.1 s26f).bind fun x60 =>
   (j0 x60 r58.1).bind fun r61 =>
   if (!r61) then
    some (.inr (.inr false))
   else
    (P.idx r35.1 s26f).bind fun x63 =>
    (j0 x63 r59.1).bind fun r64 =>
    if (!r64) then
     some (.inr (.inr false))
    else
     if s16dx then
      (fQ x57).bind fun r67 =>
      if decide (r67<0) then
       some (.inr (.inr false))
      else
       (fW x60 x56).bind fun r69 =>
       if decide (r69<0) then
        some (.inr (.inr false))
       else
        some (.inl (IntKind.i64.wrap (s26f+1)))
     else
      some (.inl (IntKind.i64.wrap (s26f+1)))
  else
   some (.inr (.inl ()))
def eT (p0:bW) (p1:(List al)) (p2:(List al)) (p3:al):Option (Bool) :=
 (nF).bind fun r1 =>
 (qZ p0 p1).bind fun r2 =>
 (if (!r2) then
  some true
 else
  (pj p2 4).bind fun r78 =>
  if (!r78) then
   some true
  else
   (nD p3 4).bind fun r80 =>
   if (!r80) then
    some true
   else
    (bU p3).bind fun r82 =>
    some (!r82)).bind fun s50j1 =>
 if s50j1 then
  some r1
 else
  (dV p0 p1).bind fun r5 =>
  (dV p0 p2).bind fun r6 =>
  (if (r5.2 != 0) then
   some true
  else
   some (r6.2 != 0)).bind fun s69j2 =>
  if s69j2 then
   some r1
  else
   (if ((r5.1.length:Int) != (p1.length:Int)) then
    some true
   else
    if ((r6.1.length:Int) != (p2.length:Int)) then
     some true
    else
     some ((r5.1.length:Int) != (r6.1.length:Int))).bind fun s89j3 =>
   if s89j3 then
    some false
   else
    (ba (gZ p1 p2 p3) (true,0,[],[])).bind fun q=>match q with
    | (s16dx,l14dx,l15dx) =>
     (dV p0 l14dx).bind fun r34 =>
     (dV p0 l15dx).bind fun r35 =>
     (if (r34.2 != 0) then
      some true
     else
      if (r35.2 != 0) then
       some true
      else
       if ((r34.1.length:Int) != (r5.1.length:Int)) then
        some true
       else
        some ((r35.1.length:Int) != (r5.1.length:Int))).bind fun s167j5 =>
     if s167j5 then
      some false
     else
      (ba (g9 p3 r5 r6 s16dx r34 r35) 0).bind fun q=>match q with
      | (.inl _) =>
       some r1
      | (.inr rf) =>
       some rf
end Go.Proofs.Ytchndpjlijbplaa.P
namespace Go.Proofs.Ytchndpjlijbplaa.Am
open Go.RowKit Go.Proofs.Ytchndpjlijbplaa.P
set_option maxRecDepth 100000
set_option maxHeartbeats 4000000
set_option linter.unusedSimpArgs false
set_option linter.unusedVariables false
theorem vmt:type_of% (ai @YS<|ai @Sc<|ai @YT<|ai @YU<|ai @YV<|ai @Wn<|ai @Wo<|ai @Pu<|ai @Wp<|ai @IG<|ai @Dl<|ai @Wq<|ai @IH<|ai @Wr<|ai @Ws<|ai @Pv<|ai @Wt<|ai @Dm<|ai @Wu<|ai @II<|ai @Wv<|ai @Ww<|ai @Wx<|ai @Wy<|ai @Pw<|ai @Wz<|ai @WA<|ai @WB<|ai @R9<|ai @Sa<|@Sb):=⟨@YS,@Sc,@YT,@YU,@YV,@Wn,@Wo,@Pu,@Wp,@IG,@Dl,@Wq,@IH,@Wr,@Ws,@Pv,@Wt,@Dm,@Wu,@II,@Wv,@Ww,@Wx,@Wy,@Pw,@Wz,@WA,@WB,@R9,@Sa,@Sb⟩
def eM:gY an:=Kb (wR (eI .i64) (NA (eI .i64))) (fun x=>(x.ag,x.aa)) (by rintro⟨⟩ ⟨⟩ h;simpa using h)
theorem zj (x:an):eM.cells x=[.int .i64 x.ag,.sl false false x.aa.length (ae (eI .i64) x.aa)]:=ae2
theorem qD:eM.size=2:=ae2
theorem Km (x:an):an.mk x.ag x.aa=x:=ae2
def av:gY al:=Kb (wR eM eM) (fun x=>(x.aH,x.aK)) (by rintro⟨⟩ ⟨⟩ h;simpa using h)
theorem wT (x:al):av.cells x=[.int .i64 x.aH.ag,.sl false false x.aH.aa.length (ae (eI .i64) x.aH.aa),.int .i64 x.aK.ag,.sl false false x.aK.aa.length (ae (eI .i64) x.aK.aa)]:=ae2
theorem oL:av.size=4:=ae2
theorem Ft (x:al):al.mk x.aH x.aK=x:=ae2
def a7:gY di:=Kb (wR (eI .i64) (wR (eI .i64) av)) (fun x=>(x.de,x.lN,x.bg)) (by rintro⟨⟩ ⟨⟩ h;simpa using h)
theorem wU (x:di):a7.cells x=[.int .i64 x.de,.int .i64 x.lN,.int .i64 x.bg.aH.ag,.sl false false x.bg.aH.aa.length (ae (eI .i64) x.bg.aH.aa),.int .i64 x.bg.aK.ag,.sl false false x.bg.aK.aa.length (ae (eI .i64) x.bg.aK.aa)]:=ae2
theorem oM:a7.size=6:=ae2
theorem Fu (x:di):di.mk x.de x.lN x.bg=x:=ae2
def m5:gY bW:=Kb (wR (eI .i64) (NA a7)) (fun x=>(x.aF,x.ax)) (by rintro⟨⟩ ⟨⟩ h;simpa using h)
theorem zk (x:bW):m5.cells x=[.int .i64 x.aF,.sl false false x.ax.length (ae a7 x.ax)]:=ae2
theorem qE:m5.size=2:=ae2
theorem Kn (x:bW):bW.mk x.aF x.ax=x:=ae2
def bn:gY du:=Kb (wR (eI .i64) av) (fun x=>(x.kn,x.dx)) (by rintro⟨⟩ ⟨⟩ h;simpa using h)
theorem wV (x:du):bn.cells x=[.int .i64 x.kn,.int .i64 x.dx.aH.ag,.sl false false x.dx.aH.aa.length (ae (eI .i64) x.dx.aH.aa),.int .i64 x.dx.aK.ag,.sl false false x.dx.aK.aa.length (ae (eI .i64) x.dx.aK.aa)]:=ae2
theorem oN:bn.size=5:=ae2
theorem Fv (x:du):du.mk x.kn x.dx=x:=ae2
def cp:gY aw:=Kb (wR av (NA bn)) (fun x=>(x.aP,x.bl)) (by rintro⟨⟩ ⟨⟩ h;simpa using h)
theorem l3 (x:aw):cp.cells x=[.int .i64 x.aP.aH.ag,.sl false false x.aP.aH.aa.length (ae (eI .i64) x.aP.aH.aa),.int .i64 x.aP.aK.ag,.sl false false x.aP.aK.aa.length (ae (eI .i64) x.aP.aK.aa),.sl false false x.bl.length (ae bn x.bl)]:=ae2
theorem ka:cp.size=5:=ae2
def aE:gY aw:=Kb (wR av (BE bn)) (fun x=>(x.aP,x.bl)) (by rintro⟨⟩ ⟨⟩ h;simpa using h)
theorem cK (x:aw):aE.cells x=[.int .i64 x.aP.aH.ag,.sl false false x.aP.aH.aa.length (ae (eI .i64) x.aP.aH.aa),.int .i64 x.aP.aK.ag,.sl false false x.aP.aK.aa.length (ae (eI .i64) x.aP.aK.aa),.nx (x.bl).length (ae bn (x.bl))]:=ae2
theorem lZ:aE.size=5:=ae2
theorem BJ (x:aw):(aE.cells x).map Dx=cp.cells x:=ae2
theorem BI (x:aw):(aE.cells x).all (uX 5)=true:=by simp[cK,uX,eY,bH,Ar,qC,tZ,wS,qD,oL,oM,qE,oN,ka]
def aV:gY (Bool×aw):=Z7 cp aE rfl (by intro x y h;simp[l3,cK]at h)
theorem vg (x:aw):aV.cells (false,x)=[.int .i64 x.aP.aH.ag,.sl false false x.aP.aH.aa.length (ae (eI .i64) x.aP.aH.aa),.int .i64 x.aP.aK.ag,.sl false false x.aP.aK.aa.length (ae (eI .i64) x.aP.aK.aa),.nx (x.bl).length (ae bn (x.bl))]:=ae2
theorem vk (x:aw):aV.cells (true,x)=[.int .i64 x.aP.aH.ag,.sl false false x.aP.aH.aa.length (ae (eI .i64) x.aP.aH.aa),.int .i64 x.aP.aK.ag,.sl false false x.aP.aK.aa.length (ae (eI .i64) x.aP.aK.aa),.sl false false x.bl.length (ae bn x.bl)]:=ae2
theorem lj (x:aw):aV.cells (false,x)=aE.cells x:=ae2
theorem BH (x:aw):aV.cells (true,x)=cp.cells x:=ae2
theorem lY:aV.size=5:=ae2
theorem vl (x:aw):aw.mk x.aP x.bl=x:=ae2
theorem Ys {l:List _} : (ae (eI .i64) l).length=l.length*1:=bH _ l
theorem Px {l:List _} : (ae (eI .i64) l).take (l.length*1)=ae (eI .i64) l:=by
 have:=dY (eI .i64) l l.length
 rw[aen]at this
 exact this
theorem WC {l:List _} {i:Nat} {x:_} : (ae (eI .i64) (l.set i x)).take (l.length*1)=ae (eI .i64) (l.set i x):=by
 have:=@Px (l.set i x)
 rwa [aem]at this
theorem Yt {l:List _} : (ae (eI .u8) l).length=l.length*1:=bH _ l
theorem Py {l:List _} : (ae (eI .u8) l).take (l.length*1)=ae (eI .u8) l:=by
 have:=dY (eI .u8) l l.length
 rw[aen]at this
 exact this
theorem WD {l:List _} {i:Nat} {x:_} : (ae (eI .u8) (l.set i x)).take (l.length*1)=ae (eI .u8) (l.set i x):=by
 have:=@Py (l.set i x)
 rwa [aem]at this
theorem Yu {l:List _} : (ae (BE (eI .i64)) l).length=l.length*1:=bH _ l
theorem Pz {l:List _} : (ae (BE (eI .i64)) l).take (l.length*1)=ae (BE (eI .i64)) l:=by
 have:=dY (BE (eI .i64)) l l.length
 rw[aen]at this
 exact this
theorem WE {l:List _} {i:Nat} {x:_} : (ae (BE (eI .i64)) (l.set i x)).take (l.length*1)=ae (BE (eI .i64)) (l.set i x):=by
 have:=@Pz (l.set i x)
 rwa [aem]at this
theorem Yv {l:List _} : (ae (NA (eI .i64)) l).length=l.length*1:=bH _ l
theorem PA {l:List _} : (ae (NA (eI .i64)) l).take (l.length*1)=ae (NA (eI .i64)) l:=by
 have:=dY (NA (eI .i64)) l l.length
 rw[aen]at this
 exact this
theorem WG {l:List _} {i:Nat} {x:_} : (ae (NA (eI .i64)) (l.set i x)).take (l.length*1)=ae (NA (eI .i64)) (l.set i x):=by
 have:=@PA (l.set i x)
 rwa [aem]at this
theorem Yw {l:List _} : (ae zh l).length=l.length*1:=bH _ l
theorem PB {l:List _} : (ae zh l).take (l.length*1)=ae zh l:=by
 have:=dY zh l l.length
 rw[aen]at this
 exact this
theorem WH {l:List _} {i:Nat} {x:_} : (ae zh (l.set i x)).take (l.length*1)=ae zh (l.set i x):=by
 have:=@PB (l.set i x)
 rwa [aem]at this
theorem Yx {l:List _} : (ae av l).length=l.length*4:=bH _ l
theorem PC {l:List _} : (ae av l).take (l.length*4)=ae av l:=by
 have:=dY av l l.length
 rw[aen]at this
 exact this
theorem WI {l:List _} {i:Nat} {x:_} : (ae av (l.set i x)).take (l.length*4)=ae av (l.set i x):=by
 have:=@PC (l.set i x)
 rwa [aem]at this
theorem Yy {l:List _} : (ae a7 l).length=l.length*6:=bH _ l
theorem PD {l:List _} : (ae a7 l).take (l.length*6)=ae a7 l:=by
 have:=dY a7 l l.length
 rw[aen]at this
 exact this
theorem WJ {l:List _} {i:Nat} {x:_} : (ae a7 (l.set i x)).take (l.length*6)=ae a7 (l.set i x):=by
 have:=@PD (l.set i x)
 rwa [aem]at this
theorem Yz {l:List _} : (ae cp l).length=l.length*5:=bH _ l
theorem PE {l:List _} : (ae cp l).take (l.length*5)=ae cp l:=by
 have:=dY cp l l.length
 rw[aen]at this
 exact this
theorem WK {l:List _} {i:Nat} {x:_} : (ae cp (l.set i x)).take (l.length*5)=ae cp (l.set i x):=by
 have:=@PE (l.set i x)
 rwa [aem]at this
theorem YA {l:List _} : (ae aV l).length=l.length*5:=bH _ l
theorem PF {l:List _} : (ae aV l).take (l.length*5)=ae aV l:=by
 have:=dY aV l l.length
 rw[aen]at this
 exact this
theorem WL {l:List _} {i:Nat} {x:_} : (ae aV (l.set i x)).take (l.length*5)=ae aV (l.set i x):=by
 have:=@PF (l.set i x)
 rwa [aem]at this
theorem YB {l:List _} : (ae aE l).length=l.length*5:=bH _ l
theorem PG {l:List _} : (ae aE l).take (l.length*5)=ae aE l:=by
 have:=dY aE l l.length
 rw[aen]at this
 exact this
theorem WM {l:List _} {i:Nat} {x:_} : (ae aE (l.set i x)).take (l.length*5)=ae aE (l.set i x):=by
 have:=@PG (l.set i x)
 rwa [aem]at this
theorem Vt {l:List _} : (ae bn l).length=l.length*5:=bH _ l
theorem IJ {l:List _} : (ae bn l).take (l.length*5)=ae bn l:=by
 have:=dY bn l l.length
 rw[aen]at this
 exact this
theorem Sd {l:List _} {i:Nat} {x:_} : (ae bn (l.set i x)).take (l.length*5)=ae bn (l.set i x):=by
 have:=@IJ (l.set i x)
 rwa [aem]at this
theorem vme:type_of% (ai @BD<|ai @zi<|ai @BG<|ai @yk<|ai @Ar<|ai @qC<|ai @tZ<|ai @wS<|ai @wW<|ai @tY<|ai @sS<|ai @cK<|ai @lZ<|ai @vg<|ai @vk<|ai @lY<|ai @zj<|ai @qD<|ai @wT<|ai @oL<|ai @wU<|ai @oM<|ai @zk<|ai @qE<|ai @wV<|ai @oN<|ai @l3<|@ka):=⟨@BD,@zi,@BG,@yk,@Ar,@qC,@tZ,@wS,@wW,@tY,@sS,@cK,@lZ,@vg,@vk,@lY,@zj,@qD,@wT,@oL,@wU,@oM,@zk,@qE,@wV,@oN,@l3,@ka⟩
theorem vml:type_of% (ai @aJ<|ai @Km<|ai @Ft<|ai @Fu<|ai @Kn<|ai @Fv<|ai @vl<|ai @Ys<|ai @Px<|ai @WC<|ai @Yt<|ai @Py<|ai @WD<|ai @Yu<|ai @Pz<|ai @WE<|ai @Yv<|ai @PA<|ai @WG<|ai @Yw<|ai @PB<|ai @WH<|ai @Yx<|ai @PC<|ai @WI<|ai @Yy<|ai @PD<|ai @WJ<|ai @Yz<|ai @PE<|ai @WK<|ai @YA<|ai @PF<|ai @WL<|ai @YB<|ai @PG<|ai @WM<|ai @Vt<|ai @IJ<|@Sd):=⟨@aJ,@Km,@Ft,@Fu,@Kn,@Fv,@vl,@Ys,@Px,@WC,@Yt,@Py,@WD,@Yu,@Pz,@WE,@Yv,@PA,@WG,@Yw,@PB,@WH,@Yx,@PC,@WI,@Yy,@PD,@WJ,@Yz,@PE,@WK,@YA,@PF,@WL,@YB,@PG,@WM,@Vt,@IJ,@Sd⟩
theorem w:type_of% (ai @v<|ai @vmt<|ai @vme<|ai @vml<|ai @vn<|@vi):=⟨@v,@vmt,@vme,@vml,@vn,@vi⟩
theorem bB:type_of% (ai @vme<|ai @aed<|ai @ad3<|ai @acO<|ai @aee<|@adI):=⟨@vme,@aed,@ad3,@acO,@aee,@adI⟩
noncomputable def ki:=gf (fP (mB (eI .i64))) (fun x:(List Int)=>jj x) (fun r:(List Int) =>.clean (.sl false false r.length (ae (eI .i64) r)))
theorem fw (p0:(List Int)):ki none [.sl false false p0.length (ae (eI .i64) p0)]=(jj p0).map fun r:(List Int)=>(.clean (.sl false false r.length (ae (eI .i64) r)),none):=aW _ _ _ (p0)
theorem OW (p0:(List Int)) (r:(List Int)) (hh:jj p0=some r):a8 .clean tab a6 FU Try.f106 none [.sl false false p0.length (ae (eI .i64) p0)]=some (.clean (.sl false false r.length (ae (eI .i64) r)),none):=by
 refine aC rfl Try.ntmps106 Try.results106 ?_
 unfold jj at hh
 try simp only[w,seval]
 obtain⟨o4,ho4,hh⟩:=ah hh
 refine aB (fun s t H e=>match s with|s3a=>t 0=.sl false false p0.length (ae (eI .i64) p0)∧t 3=.int .i64 s3a) (fun o x t H e=>match o with|s3ax=>x=.exit 0∧t 0=.sl false false p0.length (ae (eI .i64) p0)∧t 3=.int .i64 s3ax) ho4 ?_ ?_ ?_
 ·refine⟨?_,?_⟩
  all_goals first|rfl|(simp only[w,seval]<;>rfl)
 ·rintro s3a t H e Za c hh
  simp only[zO]at hh
  try simp only[w,seval,Za]
  refine sp dW hh (fun _ hh =>?_) (fun _ hh =>?_)
  ·obtain⟨x6,hx6,hh⟩:=ah hh
   have ax6:=bG (eI .i64) hx6
   simp only[bB]at ax6
   try simp only[w,seval,Za,ax6]
   refine sp aq hh (fun _ hh =>?_) (fun _ hh =>?_)
   ·cases hh
    try simp only[w,seval,Za,ax6]
    refine jN ?_
    refine⟨?_,?_⟩
    all_goals first|rfl|(simp only[w,seval,Za,ax6]<;>rfl)
   ·cases hh
    try simp only[w,seval,Za,ax6]
    refine kW ?_
    refine⟨rfl,⟨?_,?_⟩⟩
    all_goals first|rfl|(simp only[w,seval,Za,ax6]<;>rfl)
  ·cases hh
   try simp only[w,seval,Za]
   refine kW ?_
   refine⟨rfl,⟨?_,?_⟩⟩
   all_goals first|rfl|(simp only[w,seval,Za]<;>rfl)
 ·rintro x t H e hx
  obtain⟨s3ax,rfl⟩:∃z,z=o4:=⟨_,rfl⟩
  dsimp only at hx hh
  obtain⟨rfl,Zax⟩:=hx
  obtain⟨x8,hx8,hh⟩:=ah hh
  obtain⟨q9a,q9b,q9c,q9d,q9e⟩:=IE (eI .i64) hx8
  simp only[bB]at q9e
  obtain⟨x10,hx10,hh⟩:=ah hh
  obtain⟨q11a,q11b,q11c⟩:=An hx10
  replace q11a:=q11a.symm
  subst q11a
  cases hh
  try simp only[w,seval,Zax,q9a,q9b,q9c,q9d,q9e,q11b,q11c]
theorem mQ:bY Try.prog 106 ki:=bY.of (mode := .clean) tok bD.none mixed Try.func106 (by kernel_rfl) ⟨by kernel_rfl,by kernel_rfl⟩ (fun _=>ad4 (by kernel_rfl)) (fun x r h=>OW x r h)
noncomputable def lU:=gf (iQ (aI .i64) (fP (mB (eI .i64)))) (fun x:Int×(List Int)=>ji x.1 x.2) (fun r:an =>.clean (.agg [.int .i64 r.ag,.sl false false r.aa.length (ae (eI .i64) r.aa)]))
theorem jg (p0:Int) (p1:(List Int)):lU none [.int .i64 p0,.sl false false p1.length (ae (eI .i64) p1)]=(ji p0 p1).map fun r:an=>(.clean (.agg [.int .i64 r.ag,.sl false false r.aa.length (ae (eI .i64) r.aa)]),none):=aW _ _ _ (p0,p1)
noncomputable def qS:Env:=(Am.ext a6 106 false ki)
theorem KK:bD Try.prog qS:=(bD.none.add mQ false)
theorem wm:type_of% (ai @w<|ai @fw<|@qS.eq_1):=⟨@w,@fw,@qS.eq_1⟩
theorem OT (p0:Int) (p1:(List Int)) (r:an) (hh:ji p0 p1=some r):a8 .clean tab qS FU Try.f86 none [.int .i64 p0,.sl false false p1.length (ae (eI .i64) p1)]=some (.clean (.agg [.int .i64 r.ag,.sl false false r.aa.length (ae (eI .i64) r.aa)]),none):=by
 refine aC rfl Try.ntmps86 Try.results86 ?_
 unfold ji at hh
 obtain⟨r1,hr1,hh⟩:=ah hh
 try simp only[wm,seval,hr1]
 refine sp aq hh (fun _ hh =>?_) (fun _ hh =>?_)
 ·cases hh
  try simp only[wm,seval,hr1]
 ·cases hh
  try simp only[wm,seval,hr1]
theorem oZ:bY Try.prog 86 lU:=bY.of (mode := .clean) tok KK mixed Try.func86 (by kernel_rfl) ⟨by kernel_rfl,by kernel_rfl⟩ (fun _=>ad4 (by kernel_rfl)) (fun x r h=>OT x.1 x.2 r h)
noncomputable def AE:=gf (fP (aI .i64)) (fun x:Int=>yB x) (fun r:an =>.clean (.agg [.int .i64 r.ag,.sl false false r.aa.length (ae (eI .i64) r.aa)]))
theorem ML (p0:Int):AE none [.int .i64 p0]=(yB p0).map fun r:an=>(.clean (.agg [.int .i64 r.ag,.sl false false r.aa.length (ae (eI .i64) r.aa)]),none):=aW _ _ _ (p0)
noncomputable def w1:Env:=(Am.ext a6 86 false lU)
theorem SN:bD Try.prog w1:=(bD.none.add oZ false)
theorem dX:type_of% (ai @w<|ai @jg<|@w1.eq_1):=⟨@w,@jg,@w1.eq_1⟩
theorem Vz (p0:Int) (r:an) (hh:yB p0=some r):a8 .clean tab w1 FU Try.f58 none [.int .i64 p0]=some (.clean (.agg [.int .i64 r.ag,.sl false false r.aa.length (ae (eI .i64) r.aa)]),none):=by
 refine aC rfl Try.ntmps58 Try.results58 ?_
 unfold yB at hh
 try simp only[dX,seval]
 refine sp aq hh (fun _ hh =>?_) (fun _ hh =>?_)
 ·cases hh
  try simp only[dX,seval]
 ·try simp only[dX,seval]
  obtain⟨o2,ho2,hh⟩:=ah hh
  refine j4 0 (fun s t H e=>match s with|s3j1=>∃v2j1:Nat,t 0=.int .i64 p0∧t 2=.ptr 2 v2j1 0∧t 3=.int .i64 s3j1∧H 2=some ⟨v2j1,39,[.int .i64 0,.sl true true 0 []],false,false,false⟩) (fun s=>s=o2) ?_ ?_
  ·rintro s3j1 t H e ⟨v2j1,Zj1⟩ rfl
   try dsimp only at hh
   try simp only[dX,seval,Zj1]
   obtain⟨o15,ho15,hh⟩:=ah hh
   refine aB (fun s t H e=>match s with|(s0b,l4b)=>∃v2b:Nat,∃v4b:Nat,t 0=.int .i64 s0b∧t 2=.ptr 2 v2b 0∧t 3=.int .i64 s3j1∧t 4=.buf 4 v4b 1 0 (l4b).length∧H 2=some ⟨v2b,39,[.int .i64 0,.sl true true 0 []],false,false,false⟩∧H 4=some ⟨v4b,3,ae (eI .i64) l4b,false,true,false⟩) (fun o x t H e=>match o with|l4bx=>x=.exit 0∧∃v2bx:Nat,∃v4bx:Nat,t 2=.ptr 2 v2bx 0∧t 3=.int .i64 s3j1∧t 4=.buf 4 v4bx 1 0 (l4bx).length∧H 2=some ⟨v2bx,39,[.int .i64 0,.sl true true 0 []],false,false,false⟩∧H 4=some ⟨v4bx,3,ae (eI .i64) l4bx,false,true,false⟩) ho15 ?_ ?_ ?_
   ·refine⟨v2j1,e,?_,?_,?_,?_,?_,?_⟩
    all_goals first|rfl|(simp only[dX,seval,Zj1]<;>rfl)
   ·rintro⟨s0b,l4b⟩ t H e ⟨v2b,v4b,Zb⟩ c hh
    simp only[GB]at hh
    try simp only[dX,seval,Zb]
    refine sp aq hh (fun _ hh =>?_) (fun _ hh =>?_)
    ·obtain⟨x17,hx17,hh⟩:=ah hh
     have q18:=xe hx17
     try simp only[dX,seval,Zb,q18]
     refine sp aq hh (fun _ hh =>?_) (fun _ hh =>?_)
     ·obtain⟨x20,hx20,hh⟩:=ah hh
      obtain⟨q21a,q21b,q21c,q21d⟩:=gz (eI .i64) hx20
      simp only[bB]at q21b
      obtain⟨x22,hx22,hh⟩:=ah hh
      have q23:=qB hx22
      cases hh
      try simp only[dX,seval,Zb,q18,q21a,q21b,q21c,q21d,q23]
      refine jN ?_
      refine⟨v2b,e+1+1+1+1,?_,?_,?_,?_,?_,?_⟩
      all_goals first|rfl|(simp only[dX,seval,Zb,q18,q21a,q21b,q21c,q21d,q23]<;>rfl)
     ·obtain⟨x24,hx24,hh⟩:=ah hh
      obtain⟨q25a,q25b,q25c,q25d⟩:=gz (eI .i64) hx24
      simp only[bB]at q25b
      obtain⟨x26,hx26,hh⟩:=ah hh
      have q27:=qB hx26
      cases hh
      try simp only[dX,seval,Zb,q18,q25a,q25b,q25c,q25d,q27]
      refine jN ?_
      refine⟨v2b,e+1+1+1,?_,?_,?_,?_,?_,?_⟩
      all_goals first|rfl|(simp only[dX,seval,Zb,q18,q25a,q25b,q25c,q25d,q27]<;>rfl)
    ·cases hh
     try simp only[dX,seval,Zb]
     refine kW ?_
     refine⟨rfl,⟨v2b,v4b,?_,?_,?_,?_,?_⟩⟩
     all_goals first|rfl|(simp only[dX,seval,Zb]<;>rfl)
   ·rintro x t H e hx
    obtain⟨l4bx,rfl⟩:∃z,z=o15:=⟨_,rfl⟩
    dsimp only at hx hh
    obtain⟨rfl,⟨v2bx,v4bx,Zbx⟩⟩:=hx
    obtain⟨r28,hr28,hh⟩:=ah hh
    cases hh
    try simp only[dX,seval,Zbx,hr28]
  ·clear hh
   have hh:=ho2
   try simp only[dX,seval]
   refine sp aq hh (fun _ hh =>?_) (fun _ hh =>?_)
   ·cases hh
    try simp only[dX,seval]
    rw[au]
    refine⟨_,rfl,?_⟩
    refine⟨0,?_,?_,?_,?_⟩
    all_goals first|rfl|(simp only[dX,seval]<;>rfl)
   ·cases hh
    try simp only[dX,seval]
    rw[au]
    refine⟨_,rfl,?_⟩
    refine⟨0,?_,?_,?_,?_⟩
    all_goals first|rfl|(simp only[dX,seval]<;>rfl)
theorem Tr:bY Try.prog 58 AE:=bY.of (mode := .clean) tok SN mixed Try.func58 (by kernel_rfl) ⟨by kernel_rfl,by kernel_rfl⟩ (fun _=>ad4 (by kernel_rfl)) (fun x r h=>Vz x r h)
noncomputable def kC:=gf (fP (cW eM)) (fun x:an=>gM x) (fun r:Bool =>.clean (.bool r))
theorem gU (p0_0:Int) (p0_1:(List Int)):kC none [.agg [.int .i64 p0_0,.sl false false p0_1.length (ae (eI .i64) p0_1)]]=(gM (an.mk p0_0 p0_1)).map fun r:Bool=>(.clean (.bool r),none):=aW _ _ _ ((an.mk p0_0 p0_1))
theorem LV (p0:an) (r:Bool) (hh:gM p0=some r):a8 .clean tab a6 FU Try.f55 none [.agg [.int .i64 p0.ag,.sl false false p0.aa.length (ae (eI .i64) p0.aa)]]=some (.clean (.bool r),none):=by
 refine aC rfl Try.ntmps55 Try.results55 ?_
 unfold gM at hh
 try simp only[w,seval]
 obtain⟨o5,ho5,hh⟩:=ah hh
 refine aB (fun s t H e=>match s with|s3a=>∃v1a:Nat,t 1=.ptr 1 v1a 0∧t 3=.int .i64 s3a∧H 1=some ⟨v1a,39,[.int .i64 p0.ag,.sl false false p0.aa.length (ae (eI .i64) p0.aa)],false,false,false⟩) (fun o x t H e=>match o with|(.inl _)=>x=.exit 0∧∃v1ax:Nat,t 1=.ptr 1 v1ax 0∧H 1=some ⟨v1ax,39,[.int .i64 p0.ag,.sl false false p0.aa.length (ae (eI .i64) p0.aa)],false,false,false⟩|(.inr r)=>x=.ret∧jv .clean tab none [.tmp 2] ⟨t,EH H,e⟩=some (.clean (.bool r),none)) ho5 ?_ ?_ ?_
 ·refine⟨0,?_,?_,?_⟩
  all_goals first|rfl|(simp only[w,seval]<;>rfl)
 ·rintro s3a t H e ⟨v1a,Za⟩ c hh
  simp only[xu]at hh
  try simp only[w,seval,Za]
  refine sp aq hh (fun _ hh =>?_) (fun _ hh =>?_)
  ·obtain⟨x7,hx7,hh⟩:=ah hh
   have ax7:=bG (eI .i64) hx7
   simp only[bB]at ax7
   try simp only[w,seval,Za,ax7]
   refine sp bd hh (fun _ hh =>?_) (fun _ hh =>?_)
   ·cases hh
    try simp only[w,seval,Za,ax7]
    refine DR ⟨rfl,?_⟩
    try simp only[w,seval,Za,ax7]
   ·have ax7:=bG (eI .i64) hx7
    simp only[bB]at ax7
    try simp only[w,seval,Za,ax7,ax7]
    refine sp aq hh (fun _ hh =>?_) (fun _ hh =>?_)
    ·cases hh
     try simp only[w,seval,Za,ax7,ax7]
     refine DR ⟨rfl,?_⟩
     try simp only[w,seval,Za,ax7,ax7]
    ·cases hh
     try simp only[w,seval,Za,ax7,ax7]
     refine jN ?_
     refine⟨v1a,?_,?_,?_⟩
     all_goals first|rfl|(simp only[w,seval,Za,ax7,ax7]<;>rfl)
  ·cases hh
   try simp only[w,seval,Za]
   refine kW ?_
   refine⟨rfl,⟨v1a,?_,?_⟩⟩
   all_goals first|rfl|(simp only[w,seval,Za]<;>rfl)
 ·rintro x t H e hx
  rcases o5 with _|ra
  ·dsimp only at hx hh
   obtain⟨rfl,⟨v1ax,Zax⟩⟩:=hx
   try simp only[w,seval,Zax]
   obtain⟨o10,ho10,hh⟩:=ah hh
   refine bJ 0 (fun s t H e=>match s with|s44j2=>∃v1j2:Nat,t 1=.ptr 1 v1j2 0∧t 4=.int .i64 (p0.aa.length:Int)∧t 44=.bool s44j2∧H 1=some ⟨v1j2,39,[.int .i64 p0.ag,.sl false false p0.aa.length (ae (eI .i64) p0.aa)],false,false,false⟩) (fun s=>s=o10) ?_ ?_
   ·rintro s44j2 t H e ⟨v1j2,Zj2⟩ rfl
    try dsimp only at hh
    try simp only[w,seval,Zj2]
    refine sp aq hh (fun _ hh =>?_) (fun _ hh =>?_)
    ·cases hh
     try simp only[w,seval,Zj2]
    ·try simp only[w,seval,Zj2]
     refine sp bd hh (fun _ hh =>?_) (fun _ hh =>?_)
     ·cases hh
      try simp only[w,seval,Zj2]
     ·obtain⟨x13,hx13,hh⟩:=ah hh
      have ax13:=bG (eI .i64) hx13
      simp only[bB]at ax13
      cases hh
      try simp only[w,seval,Zj2,ax13]
   ·clear hh
    have hh:=ho10
    try simp only[w,seval,Zax]
    refine sp bd hh (fun _ hh =>?_) (fun _ hh =>?_)
    ·cases hh
     try simp only[w,seval,Zax]
     rw[au]
     refine⟨_,rfl,?_⟩
     refine⟨v1ax,?_,?_,?_,?_⟩
     all_goals first|rfl|(simp only[w,seval,Zax]<;>rfl)
    ·try simp only[w,seval,Zax]
     refine sp bd hh (fun _ hh =>?_) (fun _ hh =>?_)
     ·cases hh
      try simp only[w,seval,Zax]
      rw[au]
      refine⟨_,rfl,?_⟩
      refine⟨v1ax,?_,?_,?_,?_⟩
      all_goals first|rfl|(simp only[w,seval,Zax]<;>rfl)
     ·cases hh
      try simp only[w,seval,Zax]
      rw[au]
      refine⟨_,rfl,?_⟩
      refine⟨v1ax,?_,?_,?_,?_⟩
      all_goals first|rfl|(simp only[w,seval,Zax]<;>rfl)
  ·dsimp only at hx hh
   obtain⟨rfl,hE⟩:=hx
   cases hh
   try simp only[bO,bI,b6,eJ,eF,dE,dF]
   exact hE
theorem nB:bY Try.prog 55 kC:=bY.of (mode := .clean) tok bD.none mixed Try.func55 (by kernel_rfl) ⟨by kernel_rfl,by kernel_rfl⟩ (fun _=>ad4 (by kernel_rfl)) (fun x r h=>LV x r h)
noncomputable def xY:=gf (fP (cW eM)) (fun x:an=>uI x) (fun r:an =>.clean (.agg [.int .i64 r.ag,.sl false false r.aa.length (ae (eI .i64) r.aa)]))
theorem Gy (p0_0:Int) (p0_1:(List Int)):xY none [.agg [.int .i64 p0_0,.sl false false p0_1.length (ae (eI .i64) p0_1)]]=(uI (an.mk p0_0 p0_1)).map fun r:an=>(.clean (.agg [.int .i64 r.ag,.sl false false r.aa.length (ae (eI .i64) r.aa)]),none):=aW _ _ _ ((an.mk p0_0 p0_1))
noncomputable def uv:Env:=(Am.ext (Am.ext a6 55 false kC) 86 false lU)
theorem Oy:bD Try.prog uv:=((bD.none.add nB false).add oZ false)
theorem yQ:type_of% (ai @w<|ai @gU<|ai @jg<|@uv.eq_1):=⟨@w,@gU,@jg,@uv.eq_1⟩
theorem Td (p0:an) (r:an) (hh:uI p0=some r):a8 .clean tab uv FU Try.f100 none [.agg [.int .i64 p0.ag,.sl false false p0.aa.length (ae (eI .i64) p0.aa)]]=some (.clean (.agg [.int .i64 r.ag,.sl false false r.aa.length (ae (eI .i64) r.aa)]),none):=by
 refine aC rfl Try.ntmps100 Try.results100 ?_
 unfold uI at hh
 obtain⟨r1,hr1,hh⟩:=ah hh
 try simp only[yQ,seval,hr1]
 refine sp aq hh (fun _ hh =>?_) (fun _ hh =>?_)
 ·cases hh
  try simp only[yQ,seval,hr1]
 ·obtain⟨r3,hr3,hh⟩:=ah hh
  cases hh
  try simp only[yQ,seval,hr1,hr3]
theorem Pb:bY Try.prog 100 xY:=bY.of (mode := .clean) tok Oy mixed Try.func100 (by kernel_rfl) ⟨by kernel_rfl,by kernel_rfl⟩ (fun _=>ad4 (by kernel_rfl)) (fun x r h=>Td x r h)
noncomputable def kD:=gf (iQ (mB (eI .i64)) (fP (aI .i64))) (fun x:(List Int)×Int=>iB x.1 x.2) (fun r:Int =>.clean (.int .i64 r))
theorem gV (p0:(List Int)) (p1:Int):kD none [.sl false false p0.length (ae (eI .i64) p0),.int .i64 p1]=(iB p0 p1).map fun r:Int=>(.clean (.int .i64 r),none):=aW _ _ _ (p0,p1)
theorem LW (p0:(List Int)) (p1:Int) (r:Int) (hh:iB p0 p1=some r):a8 .clean tab a6 FU Try.f109 none [.sl false false p0.length (ae (eI .i64) p0),.int .i64 p1]=some (.clean (.int .i64 r),none):=by
 refine aC rfl Try.ntmps109 Try.results109 ?_
 unfold iB at hh
 try simp only[w,seval]
 refine sp aq hh (fun _ hh =>?_) (fun _ hh =>?_)
 ·obtain⟨x2,hx2,hh⟩:=ah hh
  have ax2:=bG (eI .i64) hx2
  simp only[bB]at ax2
  cases hh
  try simp only[w,seval,ax2]
 ·cases hh
  try simp only[w,seval]
theorem nC:bY Try.prog 109 kD:=bY.of (mode := .clean) tok bD.none mixed Try.func109 (by kernel_rfl) ⟨by kernel_rfl,by kernel_rfl⟩ (fun _=>ad4 (by kernel_rfl)) (fun x r h=>LW x.1 x.2 r h)
noncomputable def sv:=gf (iQ (mB (eI .i64)) (fP (mB (eI .i64)))) (fun x:(List Int)×(List Int)=>nJ x.1 x.2) (fun r:(List Int) =>.clean (.sl false false r.length (ae (eI .i64) r)))
theorem tp (p0:(List Int)) (p1:(List Int)):sv none [.sl false false p0.length (ae (eI .i64) p0),.sl false false p1.length (ae (eI .i64) p1)]=(nJ p0 p1).map fun r:(List Int)=>(.clean (.sl false false r.length (ae (eI .i64) r)),none):=aW _ _ _ (p0,p1)
noncomputable def oW:Env:=(Am.ext (Am.ext a6 106 false ki) 109 false kD)
theorem HU:bD Try.prog oW:=((bD.none.add mQ false).add nC false)
theorem bM:type_of% (ai @w<|ai @fw<|ai @gV<|@oW.eq_1):=⟨@w,@fw,@gV,@oW.eq_1⟩
theorem LY (p0:(List Int)) (p1:(List Int)) (r:(List Int)) (hh:nJ p0 p1=some r):a8 .clean tab oW FU Try.f107 none [.sl false false p0.length (ae (eI .i64) p0),.sl false false p1.length (ae (eI .i64) p1)]=some (.clean (.sl false false r.length (ae (eI .i64) r)),none):=by
 refine aC rfl Try.ntmps107 Try.results107 ?_
 unfold nJ at hh
 obtain⟨x1,hx1,hh⟩:=ah hh
 obtain⟨q2a,q2b,q2c,q2d,q2e⟩:=mk_one (eI .i64) hx1
 simp only[bB]at q2d
 try simp only[bM,seval,q2a,q2b,q2c,q2d,q2e]
 obtain⟨o27,ho27,hh⟩:=ah hh
 refine aB (fun s t H e=>match s with|(s6a,l5a)=>∃v5a:Nat,t 0=.sl false false p0.length (ae (eI .i64) p0)∧t 1=.sl false false p1.length (ae (eI .i64) p1)∧t 5=.buf 5 v5a 1 0 (l5a).length∧t 6=.int .i64 s6a∧H 5=some ⟨v5a,3,ae (eI .i64) l5a,false,true,false⟩) (fun o x t H e=>match o with|l5ax=>x=.exit 0∧∃v5ax:Nat,t 5=.buf 5 v5ax 1 0 (l5ax).length∧H 5=some ⟨v5ax,3,ae (eI .i64) l5ax,false,true,false⟩) ho27 ?_ ?_ ?_
 ·refine⟨1,?_,?_,?_,?_,?_⟩
  all_goals first|rfl|(simp only[bM,seval,q2a,q2b,q2c,q2d,q2e]<;>rfl)
 ·rintro⟨s6a,l5a⟩ t H e ⟨v5a,Za⟩ c hh
  simp only[xw]at hh
  try simp only[bM,seval,q2a,q2b,q2c,q2d,q2e,Za]
  refine sp aq hh (fun _ hh =>?_) (fun _ hh =>?_)
  ·try simp only[bM,seval,q2a,q2b,q2c,q2d,q2e,Za]
   obtain⟨o40,ho40,hh⟩:=ah hh
   refine aB (fun s t H e=>match s with|(s7e,s8e,l5e)=>∃v5e:Nat,t 0=.sl false false p0.length (ae (eI .i64) p0)∧t 1=.sl false false p1.length (ae (eI .i64) p1)∧t 5=.buf 5 v5e 1 0 (l5e).length∧t 6=.int .i64 s6a∧t 7=.int .i64 s7e∧t 8=.int .i64 s8e∧H 5=some ⟨v5e,3,ae (eI .i64) l5e,false,true,false⟩) (fun o x t H e=>match o with|l5ex=>x=.exit 2∧∃v5ex:Nat,t 0=.sl false false p0.length (ae (eI .i64) p0)∧t 1=.sl false false p1.length (ae (eI .i64) p1)∧t 5=.buf 5 v5ex 1 0 (l5ex).length∧t 6=.int .i64 s6a∧H 5=some ⟨v5ex,3,ae (eI .i64) l5ex,false,true,false⟩) ho40 ?_ ?_ ?_
   ·refine⟨v5a,?_,?_,?_,?_,?_,?_,?_⟩
    all_goals first|rfl|(simp only[bM,seval,q2a,q2b,q2c,q2d,q2e,Za]<;>rfl)
   ·rintro⟨s7e,s8e,l5e⟩ t H e ⟨v5e,Ze⟩ c hh
    simp only[xx]at hh
    try simp only[bM,seval,q2a,q2b,q2c,q2d,q2e,Ze]
    obtain⟨o41,ho41,hh⟩:=ah hh
    refine bJ 0 (fun s t H e=>match s with|s29j7=>∃v5j7:Nat,t 0=.sl false false p0.length (ae (eI .i64) p0)∧t 1=.sl false false p1.length (ae (eI .i64) p1)∧t 5=.buf 5 v5j7 1 0 (l5e).length∧t 6=.int .i64 s6a∧t 7=.int .i64 s7e∧t 8=.int .i64 s8e∧t 29=.bool s29j7∧H 5=some ⟨v5j7,3,ae (eI .i64) l5e,false,true,false⟩) (fun s=>s=o41) ?_ ?_
    ·rintro s29j7 t H e ⟨v5j7,Zj7⟩ rfl
     try dsimp only at hh
     try simp only[bM,seval,q2a,q2b,q2c,q2d,q2e,Zj7]
     refine sp aq hh (fun _ hh =>?_) (fun _ hh =>?_)
     ·obtain⟨x43,hx43,hh⟩:=ah hh
      have ax43:=bG (eI .i64) hx43
      simp only[bB]at ax43
      obtain⟨x44,hx44,hh⟩:=ah hh
      have ax44:=bG (eI .i64) hx44
      simp only[bB]at ax44
      obtain⟨r45,hr45,hh⟩:=ah hh
      try simp only[bM,seval,q2a,q2b,q2c,q2d,q2e,Zj7,ax43,ax44,hr45]
      refine bf (by kernel_rfl) ?_
      obtain⟨x46,hx46,hh⟩:=ah hh
      have q47:=xe hx46
      have ax43:=bG (eI .i64) hx43
      simp only[bB]at ax43
      have p48:=eO (eI .i64) (x':=x46) (fo:=0) (cs:=[.int .i64 x46]) hx43 rfl (ad4 rfl)
      simp only[bB,Nat.add_zero]at p48
      have up48:=p48
      simp only[putCells,List.length_cons,List.length_nil,ada,Nat.reduceAdd]at up48
      obtain⟨x49,hx49,hh⟩:=ah hh
      have q50:=qB hx49
      cases hh
      try simp only[bM,seval,q2a,q2b,q2c,q2d,q2e,Zj7,ax43,ax44,hr45,q47,ax43,p48,up48,q50]
      refine jN ?_
      refine⟨v5j7,?_,?_,?_,?_,?_,?_,?_⟩
      all_goals first|rfl|(simp only[bM,seval,q2a,q2b,q2c,q2d,q2e,Zj7,ax43,ax44,hr45,q47,ax43,p48,up48,q50]<;>rfl)
     ·cases hh
      try simp only[bM,seval,q2a,q2b,q2c,q2d,q2e,Zj7]
      refine kW ?_
      refine⟨rfl,⟨v5j7,?_,?_,?_,?_,?_⟩⟩
      all_goals first|rfl|(simp only[bM,seval,q2a,q2b,q2c,q2d,q2e,Zj7]<;>rfl)
    ·clear hh
     have hh:=ho41
     try simp only[bM,seval,q2a,q2b,q2c,q2d,q2e,Ze]
     refine sp bd hh (fun _ hh =>?_) (fun _ hh =>?_)
     ·cases hh
      try simp only[bM,seval,q2a,q2b,q2c,q2d,q2e,Ze]
      rw[au]
      refine⟨_,rfl,?_⟩
      refine⟨v5e,?_,?_,?_,?_,?_,?_,?_,?_⟩
      all_goals first|rfl|(simp only[bM,seval,q2a,q2b,q2c,q2d,q2e,Ze]<;>rfl)
     ·cases hh
      try simp only[bM,seval,q2a,q2b,q2c,q2d,q2e,Ze]
      rw[au]
      refine⟨_,rfl,?_⟩
      refine⟨v5e,?_,?_,?_,?_,?_,?_,?_,?_⟩
      all_goals first|rfl|(simp only[bM,seval,q2a,q2b,q2c,q2d,q2e,Ze]<;>rfl)
   ·rintro x t H e hx
    obtain⟨l5ex,rfl⟩:∃z,z=o40:=⟨_,rfl⟩
    dsimp only at hx hh
    obtain⟨rfl,⟨v5ex,Zex⟩⟩:=hx
    cases hh
    try simp only[bM,seval,q2a,q2b,q2c,q2d,q2e,Zex]
    refine jN ?_
    refine⟨v5ex,?_,?_,?_,?_,?_⟩
    all_goals first|rfl|(simp only[bM,seval,q2a,q2b,q2c,q2d,q2e,Zex]<;>rfl)
  ·cases hh
   try simp only[bM,seval,q2a,q2b,q2c,q2d,q2e,Za]
   refine kW ?_
   refine⟨rfl,⟨v5a,?_,?_⟩⟩
   all_goals first|rfl|(simp only[bM,seval,q2a,q2b,q2c,q2d,q2e,Za]<;>rfl)
 ·rintro x t H e hx
  obtain⟨l5ax,rfl⟩:∃z,z=o27:=⟨_,rfl⟩
  dsimp only at hx hh
  obtain⟨rfl,⟨v5ax,Zax⟩⟩:=hx
  obtain⟨r52,hr52,hh⟩:=ah hh
  cases hh
  try simp only[bM,seval,q2a,q2b,q2c,q2d,q2e,Zax,hr52]
theorem Iq:bY Try.prog 107 sv:=bY.of (mode := .clean) tok HU mixed Try.func107 (by kernel_rfl) ⟨by kernel_rfl,by kernel_rfl⟩ (fun _=>ad4 (by kernel_rfl)) (fun x r h=>LY x.1 x.2 r h)
noncomputable def vH:=gf (iQ (mB (eI .i64)) (fP (mB (eI .i64)))) (fun x:(List Int)×(List Int)=>tq x.1 x.2) (fun r:Bool =>.clean (.bool r))
theorem CY (p0:(List Int)) (p1:(List Int)):vH none [.sl false false p0.length (ae (eI .i64) p0),.sl false false p1.length (ae (eI .i64) p1)]=(tq p0 p1).map fun r:Bool=>(.clean (.bool r),none):=aW _ _ _ (p0,p1)
noncomputable def qQ:Env:=(Am.ext a6 109 false kD)
theorem KJ:bD Try.prog qQ:=(bD.none.add nC false)
theorem gw:type_of% (ai @w<|ai @gV<|@qQ.eq_1):=⟨@w,@gV,@qQ.eq_1⟩
theorem OS (p0:(List Int)) (p1:(List Int)) (r:Bool) (hh:tq p0 p1=some r):a8 .clean tab qQ FU Try.f88 none [.sl false false p0.length (ae (eI .i64) p0),.sl false false p1.length (ae (eI .i64) p1)]=some (.clean (.bool r),none):=by
 refine aC rfl Try.ntmps88 Try.results88 ?_
 unfold tq at hh
 try simp only[gw,seval]
 obtain⟨o5,ho5,hh⟩:=ah hh
 refine aB (fun s t H e=>match s with|s5a=>t 0=.sl false false p0.length (ae (eI .i64) p0)∧t 1=.sl false false p1.length (ae (eI .i64) p1)∧t 5=.int .i64 s5a) (fun o x t H e=>match o with|(.inl _)=>x=.exit 0|(.inr r)=>x=.ret∧jv .clean tab none [.tmp 4] ⟨t,EH H,e⟩=some (.clean (.bool r),none)) ho5 ?_ ?_ ?_
 ·refine⟨?_,?_,?_⟩
  all_goals first|rfl|(simp only[gw,seval]<;>rfl)
 ·rintro s5a t H e Za c hh
  simp only[zK]at hh
  try simp only[gw,seval,Za]
  refine sp aq hh (fun _ hh =>?_) (fun _ hh =>?_)
  ·obtain⟨r7,hr7,hh⟩:=ah hh
   obtain⟨r8,hr8,hh⟩:=ah hh
   try simp only[gw,seval,Za,hr7,hr8]
   refine sp aq hh (fun _ hh =>?_) (fun _ hh =>?_)
   ·cases hh
    try simp only[gw,seval,Za,hr7,hr8]
    refine DR ⟨rfl,?_⟩
    try simp only[gw,seval,Za,hr7,hr8]
   ·cases hh
    try simp only[gw,seval,Za,hr7,hr8]
    refine jN ?_
    refine⟨?_,?_,?_⟩
    all_goals first|rfl|(simp only[gw,seval,Za,hr7,hr8]<;>rfl)
  ·cases hh
   try simp only[gw,seval,Za]
   refine kW ?_
   exact rfl
 ·rintro x t H e hx
  rcases o5 with _|ra
  ·dsimp only at hx hh
   subst hx
   cases hh
   try simp only[gw,seval]
  ·dsimp only at hx hh
   obtain⟨rfl,hE⟩:=hx
   cases hh
   try simp only[bO,bI,b6,eJ,eF,dE,dF]
   exact hE
theorem Mz:bY Try.prog 88 vH:=bY.of (mode := .clean) tok KJ mixed Try.func88 (by kernel_rfl) ⟨by kernel_rfl,by kernel_rfl⟩ (fun _=>ad4 (by kernel_rfl)) (fun x r h=>OS x.1 x.2 r h)
noncomputable def oH:=gf (iQ (mB (eI .i64)) (fP (mB (eI .i64)))) (fun x:(List Int)×(List Int)=>nI x.1 x.2) (fun r:(List Int) =>.clean (.sl false false r.length (ae (eI .i64) r)))
theorem pc (p0:(List Int)) (p1:(List Int)):oH none [.sl false false p0.length (ae (eI .i64) p0),.sl false false p1.length (ae (eI .i64) p1)]=(nI p0 p1).map fun r:(List Int)=>(.clean (.sl false false r.length (ae (eI .i64) r)),none):=aW _ _ _ (p0,p1)
noncomputable def oV:Env:=(Am.ext (Am.ext a6 106 false ki) 109 false kD)
theorem HT:bD Try.prog oV:=((bD.none.add mQ false).add nC false)
theorem ef:type_of% (ai @w<|ai @fw<|ai @gV<|@oV.eq_1):=⟨@w,@fw,@gV,@oV.eq_1⟩
theorem LX (p0:(List Int)) (p1:(List Int)) (r:(List Int)) (hh:nI p0 p1=some r):a8 .clean tab oV FU Try.f108 none [.sl false false p0.length (ae (eI .i64) p0),.sl false false p1.length (ae (eI .i64) p1)]=some (.clean (.sl false false r.length (ae (eI .i64) r)),none):=by
 refine aC rfl Try.ntmps108 Try.results108 ?_
 unfold nI at hh
 try simp only[ef,seval]
 obtain⟨o9,ho9,hh⟩:=ah hh
 refine aB (fun s t H e=>match s with|(s6a,s7a,l5a)=>∃v5a:Nat,t 0=.sl false false p0.length (ae (eI .i64) p0)∧t 1=.sl false false p1.length (ae (eI .i64) p1)∧t 5=.buf 5 v5a 1 0 (l5a).length∧t 6=.int .i64 s6a∧t 7=.int .i64 s7a∧H 5=some ⟨v5a,3,ae (eI .i64) l5a,false,true,false⟩) (fun o x t H e=>match o with|l5ax=>x=.exit 0∧∃v5ax:Nat,t 5=.buf 5 v5ax 1 0 (l5ax).length∧H 5=some ⟨v5ax,3,ae (eI .i64) l5ax,false,true,false⟩) ho9 ?_ ?_ ?_
 ·refine⟨1,?_,?_,?_,?_,?_,?_⟩
  all_goals first|rfl|(simp only[ef,seval]<;>rfl)
 ·rintro⟨s6a,s7a,l5a⟩ t H e ⟨v5a,Za⟩ c hh
  simp only[xv]at hh
  try simp only[ef,seval,Za]
  refine sp aq hh (fun _ hh =>?_) (fun _ hh =>?_)
  ·obtain⟨x11,hx11,hh⟩:=ah hh
   have ax11:=bG (eI .i64) hx11
   simp only[bB]at ax11
   obtain⟨r12,hr12,hh⟩:=ah hh
   try simp only[ef,seval,Za,ax11,hr12]
   refine bf (by kernel_rfl) ?_
   try simp only[ef,seval,Za,ax11,hr12]
   refine sp aq hh (fun _ hh =>?_) (fun _ hh =>?_)
   ·obtain⟨x14,hx14,hh⟩:=ah hh
    obtain⟨q15a,q15b,q15c,q15d⟩:=gz (eI .i64) hx14
    simp only[bB]at q15b
    cases hh
    try simp only[ef,seval,Za,ax11,hr12,q15a,q15b,q15c,q15d]
    refine jN ?_
    refine⟨e+1+1+1+1+1+1,?_,?_,?_,?_,?_,?_⟩
    all_goals first|rfl|(simp only[ef,seval,Za,ax11,hr12,q15a,q15b,q15c,q15d]<;>rfl)
   ·obtain⟨x16,hx16,hh⟩:=ah hh
    obtain⟨q17a,q17b,q17c,q17d⟩:=gz (eI .i64) hx16
    simp only[bB]at q17b
    cases hh
    try simp only[ef,seval,Za,ax11,hr12,q17a,q17b,q17c,q17d]
    refine jN ?_
    refine⟨e+1+1+1+1,?_,?_,?_,?_,?_,?_⟩
    all_goals first|rfl|(simp only[ef,seval,Za,ax11,hr12,q17a,q17b,q17c,q17d]<;>rfl)
  ·cases hh
   try simp only[ef,seval,Za]
   refine kW ?_
   refine⟨rfl,⟨v5a,?_,?_⟩⟩
   all_goals first|rfl|(simp only[ef,seval,Za]<;>rfl)
 ·rintro x t H e hx
  obtain⟨l5ax,rfl⟩:∃z,z=o9:=⟨_,rfl⟩
  dsimp only at hx hh
  obtain⟨rfl,⟨v5ax,Zax⟩⟩:=hx
  obtain⟨r18,hr18,hh⟩:=ah hh
  cases hh
  try simp only[ef,seval,Zax,hr18]
theorem xm:bY Try.prog 108 oH:=bY.of (mode := .clean) tok HT mixed Try.func108 (by kernel_rfl) ⟨by kernel_rfl,by kernel_rfl⟩ (fun _=>ad4 (by kernel_rfl)) (fun x r h=>LX x.1 x.2 r h)
noncomputable def qe:=gf (iQ (mB (eI .i64)) (fP (mB (eI .i64)))) (fun x:(List Int)×(List Int)=>pU x.1 x.2) (fun r:(List Int)×(List Int) =>.clean (.tup [.sl false false r.1.length (ae (eI .i64) r.1),.sl false false r.2.length (ae (eI .i64) r.2)]))
theorem rp (p0:(List Int)) (p1:(List Int)):qe none [.sl false false p0.length (ae (eI .i64) p0),.sl false false p1.length (ae (eI .i64) p1)]=(pU p0 p1).map fun r:(List Int)×(List Int)=>(.clean (.tup [.sl false false r.1.length (ae (eI .i64) r.1),.sl false false r.2.length (ae (eI .i64) r.2)]),none):=aW _ _ _ (p0,p1)
noncomputable def qT:Env:=(Am.keep 7 (Am.ext (Am.ext (Am.ext (Am.ext a6 88 false vH) 106 false ki) 107 false sv) 108 false oH))
theorem KL:bD Try.prog qT:=(bD.keep ((((bD.none.add Mz false).add mQ false).add Iq false).add xm false) 7)
theorem cI:type_of% (ai @w<|ai @CY<|ai @fw<|ai @tp<|ai @pc<|@qT.eq_1):=⟨@w,@CY,@fw,@tp,@pc,@qT.eq_1⟩
theorem OU (p0:(List Int)) (p1:(List Int)) (r:(List Int)×(List Int)) (hh:pU p0 p1=some r):a8 .clean tab qT FU Try.f85 none [.sl false false p0.length (ae (eI .i64) p0),.sl false false p1.length (ae (eI .i64) p1)]=some (.clean (.tup [.sl false false r.1.length (ae (eI .i64) r.1),.sl false false r.2.length (ae (eI .i64) r.2)]),none):=by
 refine aC rfl Try.ntmps85 Try.results85 ?_
 unfold pU at hh
 obtain⟨x1,hx1,hh⟩:=ah hh
 obtain⟨q2a,q2b,q2c,q2d,q2e⟩:=mk_one (eI .i64) hx1
 simp only[bB]at q2d
 try simp only[cI,seval,q2a,q2b,q2c,q2d,q2e]
 obtain⟨o29,ho29,hh⟩:=ah hh
 refine aB (fun s t H e=>match s with|(s7a,s8a,l6a)=>∃v6a:Nat,t 0=.sl false false p0.length (ae (eI .i64) p0)∧t 1=.sl false false p1.length (ae (eI .i64) p1)∧t 6=.buf 6 v6a 1 0 (l6a).length∧t 7=.sl false false s7a.length (ae (eI .i64) s7a)∧t 8=.int .i64 s8a∧H 6=some ⟨v6a,3,ae (eI .i64) l6a,false,true,false⟩) (fun o x t H e=>match o with|(s7ax,l6ax)=>x=.exit 0∧∃v6ax:Nat,t 6=.buf 6 v6ax 1 0 (l6ax).length∧t 7=.sl false false s7ax.length (ae (eI .i64) s7ax)∧H 6=some ⟨v6ax,3,ae (eI .i64) l6ax,false,true,false⟩) ho29 ?_ ?_ ?_
 ·refine⟨1,?_,?_,?_,?_,?_,?_⟩
  all_goals first|rfl|(simp only[cI,seval,q2a,q2b,q2c,q2d,q2e]<;>rfl)
 ·rintro⟨s7a,s8a,l6a⟩ t H e ⟨v6a,Za⟩ c hh
  simp only[zL]at hh
  try simp only[cI,seval,q2a,q2b,q2c,q2d,q2e,Za]
  refine sp aq hh (fun _ hh =>?_) (fun _ hh =>?_)
  ·obtain⟨x31,hx31,hh⟩:=ah hh
   have ax31:=bG (eI .i64) hx31
   simp only[bB]at ax31
   obtain⟨x32,hx32,hh⟩:=ah hh
   obtain⟨q33a,q33b,q33c,q33d⟩:=Xa (eI .i64) hx32
   simp only[aJ,bB,List.length_cons,ada,Nat.reduceAdd]at q33a q33b
   obtain⟨r34,hr34,hh⟩:=ah hh
   try simp only[cI,seval,q2a,q2b,q2c,q2d,q2e,Za,ax31,q33a,q33b,q33c,q33d,hr34]
   obtain⟨o42,ho42,hh⟩:=ah hh
   refine aB (fun s t H e=>match s with|(s9c,s10c)=>∃v6c:Nat,t 0=.sl false false p0.length (ae (eI .i64) p0)∧t 1=.sl false false p1.length (ae (eI .i64) p1)∧t 6=.buf 6 v6c 1 0 (l6a).length∧t 7=.sl false false r34.length (ae (eI .i64) r34)∧t 8=.int .i64 s8a∧t 9=.int .i64 s9c∧t 10=.int .i64 s10c∧H 6=some ⟨v6c,3,ae (eI .i64) l6a,false,true,false⟩) (fun o x t H e=>match o with|s9cx=>x=.exit 2∧∃v6cx:Nat,t 0=.sl false false p0.length (ae (eI .i64) p0)∧t 1=.sl false false p1.length (ae (eI .i64) p1)∧t 6=.buf 6 v6cx 1 0 (l6a).length∧t 7=.sl false false r34.length (ae (eI .i64) r34)∧t 8=.int .i64 s8a∧t 9=.int .i64 s9cx∧H 6=some ⟨v6cx,3,ae (eI .i64) l6a,false,true,false⟩) ho42 ?_ ?_ ?_
   ·refine⟨v6a,?_,?_,?_,?_,?_,?_,?_,?_⟩
    all_goals first|rfl|(simp only[cI,seval,q2a,q2b,q2c,q2d,q2e,Za,ax31,q33a,q33b,q33c,q33d,hr34]<;>rfl)
   ·rintro⟨s9c,s10c⟩ t H e ⟨v6c,Zc⟩ c hh
    simp only[zM]at hh
    try simp only[cI,seval,q2a,q2b,q2c,q2d,q2e,ax31,q33a,q33b,q33c,q33d,hr34,Zc]
    refine sp aq hh (fun _ hh =>?_) (fun _ hh =>?_)
    ·obtain⟨x44,hx44,hh⟩:=ah hh
     have q45:=qB hx44
     have i46:=tp p1 ([x44])
     simp only[aJ,bB,List.length_cons,List.length_nil,ada,Nat.reduceAdd,aem]at i46
     obtain⟨r47,hr47,hh⟩:=ah hh
     obtain⟨r48,hr48,hh⟩:=ah hh
     try simp only[cI,seval,q2a,q2b,q2c,q2d,q2e,ax31,q33a,q33b,q33c,q33d,hr34,Zc,q45,i46,hr47,hr48]
     refine sp aq hh (fun _ hh =>?_) (fun _ hh =>?_)
     ·cases hh
      try simp only[cI,seval,q2a,q2b,q2c,q2d,q2e,ax31,q33a,q33b,q33c,q33d,hr34,Zc,q45,i46,hr47,hr48]
      refine jN ?_
      refine⟨v6c,?_,?_,?_,?_,?_,?_,?_,?_⟩
      all_goals first|rfl|(simp only[cI,seval,q2a,q2b,q2c,q2d,q2e,ax31,q33a,q33b,q33c,q33d,hr34,Zc,q45,i46,hr47,hr48]<;>rfl)
     ·cases hh
      try simp only[cI,seval,q2a,q2b,q2c,q2d,q2e,ax31,q33a,q33b,q33c,q33d,hr34,Zc,q45,i46,hr47,hr48]
      refine jN ?_
      refine⟨v6c,?_,?_,?_,?_,?_,?_,?_,?_⟩
      all_goals first|rfl|(simp only[cI,seval,q2a,q2b,q2c,q2d,q2e,ax31,q33a,q33b,q33c,q33d,hr34,Zc,q45,i46,hr47,hr48]<;>rfl)
    ·cases hh
     try simp only[cI,seval,q2a,q2b,q2c,q2d,q2e,ax31,q33a,q33b,q33c,q33d,hr34,Zc]
     refine kW ?_
     refine⟨rfl,⟨v6c,?_,?_,?_,?_,?_,?_,?_⟩⟩
     all_goals first|rfl|(simp only[cI,seval,q2a,q2b,q2c,q2d,q2e,ax31,q33a,q33b,q33c,q33d,hr34,Zc]<;>rfl)
   ·rintro x t H e hx
    obtain⟨s9cx,rfl⟩:∃z,z=o42:=⟨_,rfl⟩
    dsimp only at hx hh
    obtain⟨rfl,⟨v6cx,Zcx⟩⟩:=hx
    obtain⟨x50,hx50,hh⟩:=ah hh
    have ax50:=bG (eI .i64) hx50
    simp only[bB]at ax50
    have p51:=eO (eI .i64) (x':=s9cx) (fo:=0) (cs:=[.int .i64 s9cx]) hx50 rfl (ad4 rfl)
    simp only[bB,Nat.add_zero]at p51
    have up51:=p51
    simp only[putCells,List.length_cons,List.length_nil,ada,Nat.reduceAdd]at up51
    have i52:=fw ([s9cx])
    simp only[aJ,bB,List.length_cons,List.length_nil,ada,Nat.reduceAdd,aem]at i52
    obtain⟨r53,hr53,hh⟩:=ah hh
    obtain⟨r54,hr54,hh⟩:=ah hh
    obtain⟨r55,hr55,hh⟩:=ah hh
    cases hh
    try simp only[cI,seval,q2a,q2b,q2c,q2d,q2e,ax31,q33a,q33b,q33c,q33d,hr34,Zcx,ax50,p51,up51,i52,hr53,hr54,hr55]
    refine jN ?_
    refine⟨v6cx,?_,?_,?_,?_,?_,?_⟩
    all_goals first|rfl|(simp only[cI,seval,q2a,q2b,q2c,q2d,q2e,ax31,q33a,q33b,q33c,q33d,hr34,Zcx,ax50,p51,up51,i52,hr53,hr54,hr55]<;>rfl)
  ·cases hh
   try simp only[cI,seval,q2a,q2b,q2c,q2d,q2e,Za]
   refine kW ?_
   refine⟨rfl,⟨v6a,?_,?_,?_⟩⟩
   all_goals first|rfl|(simp only[cI,seval,q2a,q2b,q2c,q2d,q2e,Za]<;>rfl)
 ·rintro x t H e hx
  rcases o29 with⟨s7ax,l6ax⟩
  dsimp only at hx hh
  obtain⟨rfl,⟨v6ax,Zax⟩⟩:=hx
  obtain⟨r56,hr56,hh⟩:=ah hh
  cases hh
  try simp only[cI,seval,q2a,q2b,q2c,q2d,q2e,Zax,hr56]
theorem zB:bY Try.prog 85 qe:=bY.of (mode := .clean) tok KL mixed Try.func85 (by kernel_rfl) ⟨by kernel_rfl,by kernel_rfl⟩ (fun _=>ad4 (by kernel_rfl)) (fun x r h=>OU x.1 x.2 r h)
noncomputable def xX:=gf (iQ (cW eM) (fP (cW eM))) (fun x:an×an=>xt x.1 x.2) (fun r:an×Int =>.clean (.tup [.agg [.int .i64 r.1.ag,.sl false false r.1.aa.length (ae (eI .i64) r.1.aa)],.int .i64 r.2]))
theorem Gx (p0_0:Int) (p0_1:(List Int)) (p1_0:Int) (p1_1:(List Int)):xX none [.agg [.int .i64 p0_0,.sl false false p0_1.length (ae (eI .i64) p0_1)],.agg [.int .i64 p1_0,.sl false false p1_1.length (ae (eI .i64) p1_1)]]=(xt (an.mk p0_0 p0_1) (an.mk p1_0 p1_1)).map fun r:an×Int=>(.clean (.tup [.agg [.int .i64 r.1.ag,.sl false false r.1.aa.length (ae (eI .i64) r.1.aa)],.int .i64 r.2]),none):=aW _ _ _ ((an.mk p0_0 p0_1),(an.mk p1_0 p1_1))
noncomputable def uu:Env:=(Am.ext (Am.ext (Am.ext a6 55 false kC) 85 false qe) 86 false lU)
theorem Ox:bD Try.prog uu:=(((bD.none.add nB false).add zB false).add oZ false)
theorem ec:type_of% (ai @w<|ai @gU<|ai @rp<|ai @jg<|@uu.eq_1):=⟨@w,@gU,@rp,@jg,@uu.eq_1⟩
theorem Tc (p0:an) (p1:an) (r:an×Int) (hh:xt p0 p1=some r):a8 .clean tab uu FU Try.f56 none [.agg [.int .i64 p0.ag,.sl false false p0.aa.length (ae (eI .i64) p0.aa)],.agg [.int .i64 p1.ag,.sl false false p1.aa.length (ae (eI .i64) p1.aa)]]=some (.clean (.tup [.agg [.int .i64 r.1.ag,.sl false false r.1.aa.length (ae (eI .i64) r.1.aa)],.int .i64 r.2]),none):=by
 refine aC rfl Try.ntmps56 Try.results56 ?_
 unfold xt at hh
 obtain⟨r1,hr1,hh⟩:=ah hh
 try simp only[ec,seval,hr1]
 obtain⟨o2,ho2,hh⟩:=ah hh
 refine bJ 0 (fun s t H e=>match s with|s17j1=>∃v2j1:Nat,∃v3j1:Nat,∃v4j1:Nat,t 2=.ptr 2 v2j1 0∧t 3=.ptr 3 v3j1 0∧t 4=.ptr 4 v4j1 0∧t 17=.bool s17j1∧H 2=some ⟨v2j1,39,[.int .i64 p0.ag,.sl false false p0.aa.length (ae (eI .i64) p0.aa)],false,false,false⟩∧H 3=some ⟨v3j1,39,[.int .i64 p1.ag,.sl false false p1.aa.length (ae (eI .i64) p1.aa)],false,false,false⟩∧H 4=some ⟨v4j1,39,[.int .i64 0,.sl true true 0 []],false,false,false⟩) (fun s=>s=o2) ?_ ?_
 ·rintro s17j1 t H e ⟨v2j1,v3j1,v4j1,Zj1⟩ rfl
  try dsimp only at hh
  try simp only[ec,seval,hr1,Zj1]
  refine sp aq hh (fun _ hh =>?_) (fun _ hh =>?_)
  ·cases hh
   try simp only[ec,seval,hr1,Zj1]
  ·try simp only[ec,seval,hr1,Zj1]
   obtain⟨o6,ho6,hh⟩:=ah hh
   refine aB (fun s t H e=>match s with|(s6b,s7b)=>∃v4b:Nat,t 4=.ptr 4 v4b 0∧t 6=.sl false false s6b.length (ae (eI .i64) s6b)∧t 7=.sl false false s7b.length (ae (eI .i64) s7b)∧H 4=some ⟨v4b,39,[.int .i64 0,.sl true true 0 []],false,false,false⟩) (fun o x t H e=>match o with|s6bx=>x=.exit 0∧∃v4bx:Nat,t 4=.ptr 4 v4bx 0∧t 6=.sl false false s6bx.length (ae (eI .i64) s6bx)∧H 4=some ⟨v4bx,39,[.int .i64 0,.sl true true 0 []],false,false,false⟩) ho6 ?_ ?_ ?_
   ·refine⟨v4j1,?_,?_,?_,?_⟩
    all_goals first|rfl|(simp only[ec,seval,hr1,Zj1]<;>rfl)
   ·rintro⟨s6b,s7b⟩ t H e ⟨v4b,Zb⟩ c hh
    simp only[C0]at hh
    try simp only[ec,seval,hr1,Zb]
    refine sp aq hh (fun _ hh =>?_) (fun _ hh =>?_)
    ·obtain⟨r8,hr8,hh⟩:=ah hh
     cases hh
     try simp only[ec,seval,hr1,Zb,hr8]
     refine jN ?_
     refine⟨v4b,?_,?_,?_,?_⟩
     all_goals first|rfl|(simp only[ec,seval,hr1,Zb,hr8]<;>rfl)
    ·cases hh
     try simp only[ec,seval,hr1,Zb]
     refine kW ?_
     refine⟨rfl,⟨v4b,?_,?_,?_⟩⟩
     all_goals first|rfl|(simp only[ec,seval,hr1,Zb]<;>rfl)
   ·rintro x t H e hx
    obtain⟨s6bx,rfl⟩:∃z,z=o6:=⟨_,rfl⟩
    dsimp only at hx hh
    obtain⟨rfl,⟨v4bx,Zbx⟩⟩:=hx
    obtain⟨r9,hr9,hh⟩:=ah hh
    cases hh
    try simp only[ec,seval,hr1,Zbx,hr9]
 ·clear hh
  have hh:=ho2
  try simp only[ec,seval,hr1]
  refine sp bd hh (fun _ hh =>?_) (fun _ hh =>?_)
  ·cases hh
   try simp only[ec,seval,hr1]
   rw[au]
   refine⟨_,rfl,?_⟩
   refine⟨0,0,0,?_,?_,?_,?_,?_,?_,?_⟩
   all_goals first|rfl|(simp only[ec,seval,hr1]<;>rfl)
  ·obtain⟨r11,hr11,hh⟩:=ah hh
   cases hh
   try simp only[ec,seval,hr1,hr11]
   rw[au]
   refine⟨_,rfl,?_⟩
   refine⟨0,0,0,?_,?_,?_,?_,?_,?_,?_⟩
   all_goals first|rfl|(simp only[ec,seval,hr1,hr11]<;>rfl)
theorem O9:bY Try.prog 56 xX:=bY.of (mode := .clean) tok Ox mixed Try.func56 (by kernel_rfl) ⟨by kernel_rfl,by kernel_rfl⟩ (fun _=>ad4 (by kernel_rfl)) (fun x r h=>Tc x.1 x.2 r h)
noncomputable def vI:=gf (iQ (mB (eI .i64)) (fP (mB (eI .i64)))) (fun x:(List Int)×(List Int)=>tr x.1 x.2) (fun r:(List Int) =>.clean (.sl false false r.length (ae (eI .i64) r)))
theorem wa (p0:(List Int)) (p1:(List Int)):vI none [.sl false false p0.length (ae (eI .i64) p0),.sl false false p1.length (ae (eI .i64) p1)]=(tr p0 p1).map fun r:(List Int)=>(.clean (.sl false false r.length (ae (eI .i64) r)),none):=aW _ _ _ (p0,p1)
noncomputable def qU:Env:=(Am.ext (Am.ext a6 106 false ki) 109 false kD)
theorem KM:bD Try.prog qU:=((bD.none.add mQ false).add nC false)
theorem cU:type_of% (ai @w<|ai @fw<|ai @gV<|@qU.eq_1):=⟨@w,@fw,@gV,@qU.eq_1⟩
theorem OV (p0:(List Int)) (p1:(List Int)) (r:(List Int)) (hh:tr p0 p1=some r):a8 .clean tab qU FU Try.f116 none [.sl false false p0.length (ae (eI .i64) p0),.sl false false p1.length (ae (eI .i64) p1)]=some (.clean (.sl false false r.length (ae (eI .i64) r)),none):=by
 refine aC rfl Try.ntmps116 Try.results116 ?_
 unfold tr at hh
 try simp only[cU,seval]
 obtain⟨o13,ho13,hh⟩:=ah hh
 refine aB (fun s t H e=>match s with|(s6a,s7a,l5a)=>∃v5a:Nat,t 0=.sl false false p0.length (ae (eI .i64) p0)∧t 1=.sl false false p1.length (ae (eI .i64) p1)∧t 5=.buf 5 v5a 1 0 (l5a).length∧t 6=.int .i64 s6a∧t 7=.int .i64 s7a∧H 5=some ⟨v5a,3,ae (eI .i64) l5a,false,true,false⟩) (fun o x t H e=>match o with|l5ax=>x=.exit 0∧∃v5ax:Nat,t 5=.buf 5 v5ax 1 0 (l5ax).length∧H 5=some ⟨v5ax,3,ae (eI .i64) l5ax,false,true,false⟩) ho13 ?_ ?_ ?_
 ·refine⟨1,?_,?_,?_,?_,?_,?_⟩
  all_goals first|rfl|(simp only[cU,seval]<;>rfl)
 ·rintro⟨s6a,s7a,l5a⟩ t H e ⟨v5a,Za⟩ c hh
  simp only[zN]at hh
  try simp only[cU,seval,Za]
  obtain⟨o14,ho14,hh⟩:=ah hh
  refine bJ 0 (fun s t H e=>match s with|s22j3=>∃v5j3:Nat,t 0=.sl false false p0.length (ae (eI .i64) p0)∧t 1=.sl false false p1.length (ae (eI .i64) p1)∧t 5=.buf 5 v5j3 1 0 (l5a).length∧t 6=.int .i64 s6a∧t 7=.int .i64 s7a∧t 22=.bool s22j3∧H 5=some ⟨v5j3,3,ae (eI .i64) l5a,false,true,false⟩) (fun s=>s=o14) ?_ ?_
  ·rintro s22j3 t H e ⟨v5j3,Zj3⟩ rfl
   try dsimp only at hh
   try simp only[cU,seval,Zj3]
   refine sp aq hh (fun _ hh =>?_) (fun _ hh =>?_)
   ·obtain⟨r16,hr16,hh⟩:=ah hh
    obtain⟨r17,hr17,hh⟩:=ah hh
    obtain⟨x18,hx18,hh⟩:=ah hh
    have q19:=xe hx18
    obtain⟨x20,hx20,hh⟩:=ah hh
    obtain⟨q21a,q21b,q21c,q21d⟩:=gz (eI .i64) hx20
    simp only[bB]at q21b
    obtain⟨x22,hx22,hh⟩:=ah hh
    have q23:=qB hx22
    cases hh
    try simp only[cU,seval,Zj3,hr16,hr17,q19,q21a,q21b,q21c,q21d,q23]
    refine jN ?_
    refine⟨e+1,?_,?_,?_,?_,?_,?_⟩
    all_goals first|rfl|(simp only[cU,seval,Zj3,hr16,hr17,q19,q21a,q21b,q21c,q21d,q23]<;>rfl)
   ·cases hh
    try simp only[cU,seval,Zj3]
    refine kW ?_
    refine⟨rfl,⟨v5j3,?_,?_⟩⟩
    all_goals first|rfl|(simp only[cU,seval,Zj3]<;>rfl)
  ·clear hh
   have hh:=ho14
   try simp only[cU,seval,Za]
   refine sp bd hh (fun _ hh =>?_) (fun _ hh =>?_)
   ·cases hh
    try simp only[cU,seval,Za]
    rw[au]
    refine⟨_,rfl,?_⟩
    refine⟨v5a,?_,?_,?_,?_,?_,?_,?_⟩
    all_goals first|rfl|(simp only[cU,seval,Za]<;>rfl)
   ·try simp only[cU,seval,Za]
    refine sp bd hh (fun _ hh =>?_) (fun _ hh =>?_)
    ·cases hh
     try simp only[cU,seval,Za]
     rw[au]
     refine⟨_,rfl,?_⟩
     refine⟨v5a,?_,?_,?_,?_,?_,?_,?_⟩
     all_goals first|rfl|(simp only[cU,seval,Za]<;>rfl)
    ·cases hh
     try simp only[cU,seval,Za]
     rw[au]
     refine⟨_,rfl,?_⟩
     refine⟨v5a,?_,?_,?_,?_,?_,?_,?_⟩
     all_goals first|rfl|(simp only[cU,seval,Za]<;>rfl)
 ·rintro x t H e hx
  obtain⟨l5ax,rfl⟩:∃z,z=o13:=⟨_,rfl⟩
  dsimp only at hx hh
  obtain⟨rfl,⟨v5ax,Zax⟩⟩:=hx
  obtain⟨r26,hr26,hh⟩:=ah hh
  cases hh
  try simp only[cU,seval,Zax,hr26]
theorem MA:bY Try.prog 116 vI:=bY.of (mode := .clean) tok KM mixed Try.func116 (by kernel_rfl) ⟨by kernel_rfl,by kernel_rfl⟩ (fun _=>ad4 (by kernel_rfl)) (fun x r h=>OV x.1 x.2 r h)
noncomputable def xW:=gf (iQ (cW eM) (fP (cW eM))) (fun x:an×an=>uH x.1 x.2) (fun r:an×an×Int =>.clean (.tup [.agg [.int .i64 r.1.ag,.sl false false r.1.aa.length (ae (eI .i64) r.1.aa)],.agg [.int .i64 r.2.1.ag,.sl false false r.2.1.aa.length (ae (eI .i64) r.2.1.aa)],.int .i64 r.2.2]))
theorem Gw (p0_0:Int) (p0_1:(List Int)) (p1_0:Int) (p1_1:(List Int)):xW none [.agg [.int .i64 p0_0,.sl false false p0_1.length (ae (eI .i64) p0_1)],.agg [.int .i64 p1_0,.sl false false p1_1.length (ae (eI .i64) p1_1)]]=(uH (an.mk p0_0 p0_1) (an.mk p1_0 p1_1)).map fun r:an×an×Int=>(.clean (.tup [.agg [.int .i64 r.1.ag,.sl false false r.1.aa.length (ae (eI .i64) r.1.aa)],.agg [.int .i64 r.2.1.ag,.sl false false r.2.1.aa.length (ae (eI .i64) r.2.1.aa)],.int .i64 r.2.2]),none):=aW _ _ _ ((an.mk p0_0 p0_1),(an.mk p1_0 p1_1))
noncomputable def ur:Env:=(Am.ext (Am.ext (Am.ext (Am.ext (Am.ext a6 55 false kC) 85 false qe) 86 false lU) 108 false oH) 116 false vI)
theorem Ow:bD Try.prog ur:=(((((bD.none.add nB false).add zB false).add oZ false).add xm false).add MA false)
theorem cD:type_of% (ai @w<|ai @gU<|ai @rp<|ai @jg<|ai @pc<|ai @wa<|@ur.eq_1):=⟨@w,@gU,@rp,@jg,@pc,@wa,@ur.eq_1⟩
theorem Tb (p0:an) (p1:an) (r:an×an×Int) (hh:uH p0 p1=some r):a8 .clean tab ur FU Try.f101 none [.agg [.int .i64 p0.ag,.sl false false p0.aa.length (ae (eI .i64) p0.aa)],.agg [.int .i64 p1.ag,.sl false false p1.aa.length (ae (eI .i64) p1.aa)]]=some (.clean (.tup [.agg [.int .i64 r.1.ag,.sl false false r.1.aa.length (ae (eI .i64) r.1.aa)],.agg [.int .i64 r.2.1.ag,.sl false false r.2.1.aa.length (ae (eI .i64) r.2.1.aa)],.int .i64 r.2.2]),none):=by
 refine aC rfl Try.ntmps101 Try.results101 ?_
 unfold uH at hh
 obtain⟨r1,hr1,hh⟩:=ah hh
 try simp only[cD,seval,hr1]
 obtain⟨o2,ho2,hh⟩:=ah hh
 refine bJ 0 (fun s t H e=>match s with|s16j1=>∃v2j1:Nat,∃v3j1:Nat,∃v4j1:Nat,∃v5j1:Nat,t 2=.ptr 2 v2j1 0∧t 3=.ptr 3 v3j1 0∧t 4=.ptr 4 v4j1 0∧t 5=.ptr 5 v5j1 0∧t 16=.bool s16j1∧H 2=some ⟨v2j1,39,[.int .i64 p0.ag,.sl false false p0.aa.length (ae (eI .i64) p0.aa)],false,false,false⟩∧H 3=some ⟨v3j1,39,[.int .i64 p1.ag,.sl false false p1.aa.length (ae (eI .i64) p1.aa)],false,false,false⟩∧H 4=some ⟨v4j1,39,[.int .i64 0,.sl true true 0 []],false,false,false⟩∧H 5=some ⟨v5j1,39,[.int .i64 0,.sl true true 0 []],false,false,false⟩) (fun s=>s=o2) ?_ ?_
 ·rintro s16j1 t H e ⟨v2j1,v3j1,v4j1,v5j1,Zj1⟩ rfl
  try dsimp only at hh
  try simp only[cD,seval,hr1,Zj1]
  refine sp aq hh (fun _ hh =>?_) (fun _ hh =>?_)
  ·cases hh
   try simp only[cD,seval,hr1,Zj1]
  ·try simp only[cD,seval,hr1,Zj1]
   refine sp aq hh (fun _ hh =>?_) (fun _ hh =>?_)
   ·cases hh
    try simp only[cD,seval,hr1,Zj1]
   ·obtain⟨r5,hr5,hh⟩:=ah hh
    try simp only[cD,seval,hr1,Zj1,hr5]
    obtain⟨o6,ho6,hh⟩:=ah hh
    refine bJ 0 (fun s t H e=>match s with|s42j2=>∃v2j2:Nat,∃v3j2:Nat,∃v4j2:Nat,∃v5j2:Nat,t 2=.ptr 2 v2j2 0∧t 3=.ptr 3 v3j2 0∧t 4=.ptr 4 v4j2 0∧t 5=.ptr 5 v5j2 0∧t 7=.sl false false r5.1.length (ae (eI .i64) r5.1)∧t 8=.sl false false r5.2.length (ae (eI .i64) r5.2)∧t 42=.bool s42j2∧H 2=some ⟨v2j2,39,[.int .i64 p0.ag,.sl false false p0.aa.length (ae (eI .i64) p0.aa)],false,false,false⟩∧H 3=some ⟨v3j2,39,[.int .i64 p1.ag,.sl false false p1.aa.length (ae (eI .i64) p1.aa)],false,false,false⟩∧H 4=some ⟨v4j2,39,[.int .i64 0,.sl true true 0 []],false,false,false⟩∧H 5=some ⟨v5j2,39,[.int .i64 0,.sl true true 0 []],false,false,false⟩) (fun s=>s=o6) ?_ ?_
    ·rintro s42j2 t H e ⟨v2j2,v3j2,v4j2,v5j2,Zj2⟩ rfl
     try dsimp only at hh
     try simp only[cD,seval,hr1,hr5,Zj2]
     refine sp aq hh (fun _ hh =>?_) (fun _ hh =>?_)
     ·obtain⟨r8,hr8,hh⟩:=ah hh
      obtain⟨r9,hr9,hh⟩:=ah hh
      try simp only[cD,seval,hr1,hr5,Zj2,hr8,hr9]
      refine bf (by kernel_rfl) ?_
      cases hh
      try simp only[cD,seval,hr1,hr5,Zj2,hr8,hr9]
     ·have i10:=wa r5.1 ([1])
      simp only[aJ,bB,List.length_cons,List.length_nil,ada,Nat.reduceAdd,aem]at i10
      obtain⟨r11,hr11,hh⟩:=ah hh
      obtain⟨r12,hr12,hh⟩:=ah hh
      obtain⟨r13,hr13,hh⟩:=ah hh
      obtain⟨r14,hr14,hh⟩:=ah hh
      try simp only[cD,seval,hr1,hr5,Zj2,i10,hr11,hr12,hr13,hr14]
      refine bf (by kernel_rfl) ?_
      cases hh
      try simp only[cD,seval,hr1,hr5,Zj2,i10,hr11,hr12,hr13,hr14]
    ·clear hh
     have hh:=ho6
     try simp only[cD,seval,hr1,Zj1,hr5]
     refine sp bd hh (fun _ hh =>?_) (fun _ hh =>?_)
     ·cases hh
      try simp only[cD,seval,hr1,Zj1,hr5]
      rw[au]
      refine⟨_,rfl,?_⟩
      refine⟨v2j1,v3j1,v4j1,v5j1,?_,?_,?_,?_,?_,?_,?_,?_,?_,?_,?_⟩
      all_goals first|rfl|(simp only[cD,seval,hr1,Zj1,hr5]<;>rfl)
     ·cases hh
      try simp only[cD,seval,hr1,Zj1,hr5]
      rw[au]
      refine⟨_,rfl,?_⟩
      refine⟨v2j1,v3j1,v4j1,v5j1,?_,?_,?_,?_,?_,?_,?_,?_,?_,?_,?_⟩
      all_goals first|rfl|(simp only[cD,seval,hr1,Zj1,hr5]<;>rfl)
 ·clear hh
  have hh:=ho2
  try simp only[cD,seval,hr1]
  refine sp bd hh (fun _ hh =>?_) (fun _ hh =>?_)
  ·cases hh
   try simp only[cD,seval,hr1]
   rw[au]
   refine⟨_,rfl,?_⟩
   refine⟨0,0,0,0,?_,?_,?_,?_,?_,?_,?_,?_,?_⟩
   all_goals first|rfl|(simp only[cD,seval,hr1]<;>rfl)
  ·obtain⟨r17,hr17,hh⟩:=ah hh
   cases hh
   try simp only[cD,seval,hr1,hr17]
   rw[au]
   refine⟨_,rfl,?_⟩
   refine⟨0,0,0,0,?_,?_,?_,?_,?_,?_,?_,?_,?_⟩
   all_goals first|rfl|(simp only[cD,seval,hr1,hr17]<;>rfl)
theorem O8:bY Try.prog 101 xW:=bY.of (mode := .clean) tok Ow mixed Try.func101 (by kernel_rfl) ⟨by kernel_rfl,by kernel_rfl⟩ (fun _=>ad4 (by kernel_rfl)) (fun x r h=>Tb x.1 x.2 r h)
noncomputable def x4:=gf (iQ (cW eM) (fP (cW eM))) (fun x:an×an=>xz x.1 x.2) (fun r:al×Int =>.clean (.tup [.agg [.int .i64 r.1.aH.ag,.sl false false r.1.aH.aa.length (ae (eI .i64) r.1.aH.aa),.int .i64 r.1.aK.ag,.sl false false r.1.aK.aa.length (ae (eI .i64) r.1.aK.aa)],.int .i64 r.2]))
theorem GA (p0_0:Int) (p0_1:(List Int)) (p1_0:Int) (p1_1:(List Int)):x4 none [.agg [.int .i64 p0_0,.sl false false p0_1.length (ae (eI .i64) p0_1)],.agg [.int .i64 p1_0,.sl false false p1_1.length (ae (eI .i64) p1_1)]]=(xz (an.mk p0_0 p0_1) (an.mk p1_0 p1_1)).map fun r:al×Int=>(.clean (.tup [.agg [.int .i64 r.1.aH.ag,.sl false false r.1.aH.aa.length (ae (eI .i64) r.1.aH.aa),.int .i64 r.1.aK.ag,.sl false false r.1.aK.aa.length (ae (eI .i64) r.1.aK.aa)],.int .i64 r.2]),none):=aW _ _ _ ((an.mk p0_0 p0_1),(an.mk p1_0 p1_1))
noncomputable def ux:Env:=(Am.ext (Am.ext (Am.ext (Am.ext a6 55 false kC) 56 false xX) 100 false xY) 101 false xW)
theorem OA:bD Try.prog ux:=((((bD.none.add nB false).add O9 false).add Pb false).add O8 false)
theorem dI:type_of% (ai @w<|ai @gU<|ai @Gx<|ai @Gy<|ai @Gw<|@ux.eq_1):=⟨@w,@gU,@Gx,@Gy,@Gw,@ux.eq_1⟩
end Go.Proofs.Ytchndpjlijbplaa.Am
