/- Part of a proof, made small by a program (wip/mini.py). -/
import Derived.Test.YtchndpjlijbplaaJc
namespace Go.Proofs.Ytchndpjlijbplaa.Am
open Go.RowKit Go.Proofs.Ytchndpjlijbplaa.P
set_option linter.unusedSimpArgs false
set_option linter.unusedVariables false
section
variable {T:Nat->Option Ty} {Γ:Env} {N F e:Nat} {Q Q':Kt} {t:Nat->D} {h:Nat->Option Row}
theorem ig (hm:∀x t h e,Q x t h e->Q' x t h e):∀(ws:List W) (x:Ex) (t:Nat->D) (h:Nat->Option Row) (e:Nat),cJ T Γ N F ws Q x t h e->cJ T Γ N F ws Q' x t h e
 | [],x,t,h,e,hk=>hm _ _ _ _ hk
 | .code c::ws,x,t,h,e,hk=>by
  unfold cJ at hk ⊢
  cases x with
  | normal=>exact UN c t h e _ _ hk (fun x t h e hx=>ig hm ws x t h e hx)
  | exit n=>exact ig hm ws _ t h e hk
  | ret=>exact ig hm ws _ t h e hk
 | .blk id::ws,x,t,h,e,hk=>by
  unfold cJ Vo at hk ⊢
  cases x with
  | normal=>exact ig hm ws _ t h e hk
  | exit n =>
   simp only at hk ⊢
   split at hk
   ·rename_i hn;rw[if_pos hn];exact ig hm ws _ t h e hk
   ·rename_i hn;rw[if_neg hn];exact ig hm ws _ t h e hk
  | ret=>exact ig hm ws _ t h e hk
theorem py:∀(ws:List W) (k:Nat),cJ T Γ N F ws Q=cJ T Γ N F (ws.take k) (cJ T Γ N F (ws.drop k) Q)
 | ws,0=>by simp[cJ]
 | [],k+1=>by simp[cJ]
 | .code c::ws,k+1=>by
  rw[afr,afq]
  funext x t h e
  unfold cJ
  rw[py ws k]
 | .blk id::ws,k+1=>by
  rw[afr,afq]
  funext x t h e
  unfold cJ
  rw[py ws k]
variable {σ:Type} {ops l:List Oper} {ws:List W} {dst:Option Nat} {fs:List j8} {d:D} {g:Nat}
theorem sU {J:σ->(Nat->D)->(Nat->Option Row)->Nat->Prop} {P:σ->Prop} {R:Kt} (hrest:∀s t h e,J s t h e->P s->R .normal t h e):∀x t h e,CK J P R x t h e->R x t h e:=by
 intro x t h e hx
 cases x with
 | normal=>obtain⟨s,h1,h2⟩:=hx;exact hrest s t h e h2 h1
 | exit n=>exact hx
 | ret=>exact hx
theorem vN (hm:∀x t h e,Q x t h e->Q' x t h e) (hk:kU T Γ N F ops l ws Q t h e):kU T Γ N F ops l ws Q' t h e:=vP (fun t h hh=>ig hm ws _ _ _ _ hh) _ _ _ hk
theorem vO (hm:∀x t h e,Q x t h e->Q' x t h e) (hk:kV T Γ N F ops l ws Q t h e fs):kV T Γ N F ops l ws Q' t h e fs:=vM (fun t h fs hh=>⟨hh.1,ig hm ws _ _ _ _ hh.2⟩) _ _ _ _ hk
theorem sG (k:Nat):kU T Γ N F ops l ws Q t h e=kU T Γ N F ops l (ws.take k) (cJ T Γ N F (ws.drop k) Q) t h e:=by unfold kU;rw[py ws k]
theorem sH (k:Nat):kV T Γ N F ops l ws Q t h e fs=kV T Γ N F ops l (ws.take k) (cJ T Γ N F (ws.drop k) Q) t h e fs:=by unfold kV;rw[py ws k]
theorem Ga (k:Nat) {o:Oper} : oQ T Γ N F o ops l ws Q t h e=oQ T Γ N F o ops l (ws.take k) (cJ T Γ N F (ws.drop k) Q) t h e:=by
 unfold oQ
 congr 1
 funext t E
 rw[sG k]
theorem Gi (k:Nat) {o:Oper} : oR T Γ N F o ops l ws Q t h e fs=oR T Γ N F o ops l (ws.take k) (cJ T Γ N F (ws.drop k) Q) t h e fs:=by
 unfold oR
 congr 1
 funext t E
 rw[sH k]
theorem K4 {o:Oper} (hm:∀x t h e,Q x t h e->Q' x t h e) (hk:oQ T Γ N F o ops l ws Q t h e):oQ T Γ N F o ops l ws Q' t h e:=yF hk fun _ _ hh=>vN hm hh
theorem La {o:Oper} (hm:∀x t h e,Q x t h e->Q' x t h e) (hk:oR T Γ N F o ops l ws Q t h e fs):oR T Γ N F o ops l ws Q' t h e fs:=yF hk fun _ _ hh=>vO hm hh
variable (k:Nat) (J:σ->(Nat->D)->(Nat->Option Row)->Nat->Prop) (P:σ->Prop)
theorem kr {x y:Code} (hrest:∀s t h e,J s t h e->P s->cJ T Γ N F (ws.drop k) Q .normal t h e) (hc:JT T Γ N F d g x y (ws.take k) (CK J P (cJ T Γ N F (ws.drop k) Q)) t h e):JT T Γ N F d g x y ws Q t h e:=by
 unfold JT at hc ⊢
 have e1:∀c:Code,cJ T Γ N F (.code c::ws) Q=cJ T Γ N F (.code c::ws.take k) (cJ T Γ N F (ws.drop k) Q):=fun c=>py (.code c::ws) (k+1)
 rw[e1,e1]
 exact yD hc (fun _ hh=>ig (sU hrest) _ _ _ _ _ hh) (fun _ hh=>ig (sU hrest) _ _ _ _ _ hh)
theorem bt {want:Bool} {o:Oper} (hrest:∀s t h e,J s t h e->P s->cJ T Γ N F (ws.drop k) Q .normal t h e) (hc:wa T Γ N F d g want o ops l (ws.take k) (CK J P (cJ T Γ N F (ws.drop k) Q)) t h e):wa T Γ N F d g want o ops l ws Q t h e:=by
 unfold wa at hc ⊢
 refine Ez hc (fun t hh =>?_) (fun t hh =>?_) (fun t hh =>?_)
 ·cases want
  ·simp only[aea,if_false]at hh ⊢;rw[sG k];exact vN (sU hrest) hh
  ·simp only[if_true]at hh ⊢;rw[Ga k];exact K4 (sU hrest) hh
 ·cases want
  ·simp only[aea,if_false]at hh ⊢;rw[Ga k];exact K4 (sU hrest) hh
  ·simp only[if_true]at hh ⊢;rw[sG k];exact vN (sU hrest) hh
 ·rw[sG k];exact vN (sU hrest) hh
theorem XT {want:Bool} {o:Oper} (hrest:∀s t h e,J s t h e->P s->cJ T Γ N F (ws.drop k) Q .normal t h e) (hc:wb T Γ N F d g want o ops l (ws.take k) (CK J P (cJ T Γ N F (ws.drop k) Q)) t h e fs):wb T Γ N F d g want o ops l ws Q t h e fs:=by
 unfold wb at hc ⊢
 refine Ez hc (fun t hh =>?_) (fun t hh =>?_) (fun t hh =>?_)
 ·cases want
  ·simp only[aea,if_false]at hh ⊢;rw[sH k];exact vO (sU hrest) hh
  ·simp only[if_true]at hh ⊢;rw[Gi k];exact La (sU hrest) hh
 ·cases want
  ·simp only[aea,if_false]at hh ⊢;rw[Gi k];exact La (sU hrest) hh
  ·simp only[if_true]at hh ⊢;rw[sH k];exact vO (sU hrest) hh
 ·rw[sH k];exact vO (sU hrest) hh
end
noncomputable def mkW {α β γ:Type} (ty:Nat) (E:iC γ) (A:lz α) (F:List γ->α->Option (List γ×β)) (R:β->RK):Option (D×Row)->List D->Option (RK×Option Row):=fun lent ds =>
 match lent with
 | some (.buf 0 0 s o n,⟨0,ty',cells,false,true,false⟩)=>open Classical in
  if h:ty'=ty∧s=E.size∧∃p:List D×List γ×List D×α,cells=p.1++(ae E p.2.1++p.2.2.1)∧o=p.1.length∧n=p.2.1.length∧ds=A.ds p.2.2.2 then
   (F (Classical.choose h.2.2).2.1 (Classical.choose h.2.2).2.2.2).map fun r=>(R r.2,some ⟨0,ty,(Classical.choose h.2.2).1++(ae E r.1++(Classical.choose h.2.2).2.2.1),false,true,false⟩)
  else none
 | _=>none
theorem Tr {γ:Type} {E:iC γ} {p p' q q':List D} {l l':List γ} (h:p++(ae E l++q)=p'++(ae E l'++q')) (hp:p.length=p'.length) (hl:l.length=l'.length):p=p'∧l=l'∧q=q':=by
 obtain⟨h1,h2⟩:=afs h hp
 obtain⟨h3,h4⟩:=afs h2 (by rw[bN,bN,hl])
 exact⟨h1,tW E _ _ h3,h4⟩
theorem aaA {α β γ:Type} (ty:Nat) (E:iC γ) (A:lz α) (F:List γ->α->Option (List γ×β)) (R:β->RK) (pre post:List D) (l:List γ) (a:α) :
  mkW ty E A F R (some (.buf 0 0 E.size pre.length l.length,⟨0,ty,pre++(ae E l++post),false,true,false⟩)) (A.ds a)=(F l a).map fun r=>(R r.2,some ⟨0,ty,pre++(ae E r.1++post),false,true,false⟩):=by
 have h:ty=ty∧E.size=E.size∧∃p:List D×List γ×List D×α,pre++(ae E l++post)=p.1++(ae E p.2.1++p.2.2.1)∧pre.length=p.1.length∧l.length=p.2.1.length∧A.ds a=A.ds p.2.2.2:=⟨rfl,rfl,(pre,l,post,a),rfl,rfl,rfl,rfl⟩
 simp only[mkW]
 rw[dif_pos h]
 obtain⟨h1,h2,h3,h4⟩:=Classical.choose_spec h.2.2
 obtain⟨e1,e2,e3⟩:=Tr h1 h2 h3
 rw[<- A.inj _ _ h4,<- e1,<- e2,<- e3]
theorem WI {α β γ:Type} {ty:Nat} {E:iC γ} {A:lz α} {F:List γ->α->Option (List γ×β)} {R:β->RK} {lent:Option (D×Row)} {ds:List D} {rk:RK} {out:Option Row} (h:mkW ty E A F R lent ds=some (rk,out)) :
  ∃pre l post a l' r,lent=some (.buf 0 0 E.size pre.length l.length,⟨0,ty,pre++(ae E l++post),false,true,false⟩)∧ds=A.ds a∧F l a=some (l',r)∧rk=R r∧out=some ⟨0,ty,pre++(ae E l'++post),false,true,false⟩:=by
 unfold mkW at h
 split at h
 ·split at h
  ·rename_i he
   obtain⟨rfl,rfl,he⟩:=he
   rw[ady]at h
   obtain⟨⟨l',r⟩,h1,h2⟩:=h
   simp only[Prod.mk.injEq]at h2
   obtain⟨rfl,rfl⟩:=h2
   obtain⟨g1,g2,g3,g4⟩:=Classical.choose_spec he
   refine⟨_,_,_,_,l',r,?_,g4,h1,rfl,rfl⟩
   rw[<- g1,<- g2,<- g3]
  ·cases h
 ·cases h
theorem b6.abp {P:Program} {T:Nat->Option Ty} {Γ:Env} (hT:jK P T) (hΓ:bA P Γ) (hm:P.follows .mixedOrders=true) {α β γ:Type} {ty:Nat} {E:iC γ} {A:lz α} {F:List γ->α->Option (List γ×β)} {R:β->RK} {mode:Mode} {f:FuncId} {fn:Func} (hf:P.funcs[f]? = some fn) (hok:(match fn.body with|some c=>codeOk c|none=>true)=true)
  (hc:(fn.name == "runtime.NumGoroutine")=false∧fn.body.isNone=false) (hn:∀a,(A.ds a).length+1<=fn.ntmps)
  (h:∀pre post l a l' r,F l a=some (l',r)->bc mode T Γ FU fn (some (.buf 0 0 E.size pre.length l.length,⟨0,ty,pre++(ae E l++post),false,true,false⟩)) (A.ds a)=some (R r,some ⟨0,ty,pre++(ae E l'++post),false,true,false⟩)):b6 P f (mkW ty E A F R) where
 calls lent adv rk out hg:=by
  obtain⟨pre,l,post,a,l',r,rfl,rfl,hr,rfl,rfl⟩:=WI hg
  exact lx hT hΓ hm hf hok (hn a) rfl (h pre post l a l' r hr)
 callable:=⟨fn,hf,hc⟩
noncomputable def ZO {α γ:Type} (ty:Nat) (E:iC γ) (A:lz α) (F:List γ->α->Option (List γ)):Option (D×Row)->List D->Option (RK×Option Row):=fun lent ds =>
 match lent with
 | some (.buf 0 0 s o n,⟨0,ty',cells,false,true,false⟩)=>open Classical in
  if h:ty'=ty∧s=E.size∧∃p:List D×List γ×List D×α,cells=p.1++(ae E p.2.1++p.2.2.1)∧o=p.1.length∧n=p.2.1.length∧ds=A.ds p.2.2.2 then
   (F (Classical.choose h.2.2).2.1 (Classical.choose h.2.2).2.2.2).map fun r=>(.fresh ty E.size r.length (ae E r),none)
  else none
 | _=>none
theorem WG {α γ:Type} (ty:Nat) (E:iC γ) (A:lz α) (F:List γ->α->Option (List γ)) (pre post:List D) (l:List γ) (a:α) :
  ZO ty E A F (some (.buf 0 0 E.size pre.length l.length,⟨0,ty,pre++(ae E l++post),false,true,false⟩)) (A.ds a)=(F l a).map fun r=>(.fresh ty E.size r.length (ae E r),none):=by
 have h:ty=ty∧E.size=E.size∧∃p:List D×List γ×List D×α,pre++(ae E l++post)=p.1++(ae E p.2.1++p.2.2.1)∧pre.length=p.1.length∧l.length=p.2.1.length∧A.ds a=A.ds p.2.2.2:=⟨rfl,rfl,(pre,l,post,a),rfl,rfl,rfl,rfl⟩
 simp only[ZO]
 rw[dif_pos h]
 obtain⟨h1,h2,h3,h4⟩:=Classical.choose_spec h.2.2
 obtain⟨e1,e2,e3⟩:=Tr h1 h2 h3
 rw[<- A.inj _ _ h4,<- e2]
theorem Ng {α γ:Type} {ty:Nat} {E:iC γ} {A:lz α} {F:List γ->α->Option (List γ)} {lent:Option (D×Row)} {ds:List D} {rk:RK} {out:Option Row} (h:ZO ty E A F lent ds=some (rk,out)) :
  ∃pre l post a r,lent=some (.buf 0 0 E.size pre.length l.length,⟨0,ty,pre++(ae E l++post),false,true,false⟩)∧ds=A.ds a∧F l a=some r∧rk=.fresh ty E.size r.length (ae E r)∧out=none:=by
 unfold ZO at h
 split at h
 ·split at h
  ·rename_i he
   obtain⟨rfl,rfl,he⟩:=he
   rw[ady]at h
   obtain⟨r,h1,h2⟩:=h
   simp only[Prod.mk.injEq]at h2
   obtain⟨rfl,rfl⟩:=h2
   obtain⟨g1,g2,g3,g4⟩:=Classical.choose_spec he
   refine⟨(Classical.choose he).1,(Classical.choose he).2.1,(Classical.choose he).2.2.1,(Classical.choose he).2.2.2,r,?_,g4,h1,rfl,rfl⟩
   rw[<- g1,<- g2,<- g3]
  ·cases h
 ·cases h
theorem b6.abo {P:Program} {T:Nat->Option Ty} {Γ:Env} (hT:jK P T) (hΓ:bA P Γ) (hm:P.follows .mixedOrders=true) {α γ:Type} {ty:Nat} {E:iC γ} {A:lz α} {F:List γ->α->Option (List γ)} {f:FuncId} {fn:Func} (hf:P.funcs[f]? = some fn) (hok:(match fn.body with|some c=>codeOk c|none=>true)=true)
  (hc:(fn.name == "runtime.NumGoroutine")=false∧fn.body.isNone=false) (hn:∀a,(A.ds a).length+1<=fn.ntmps)
  (h:∀pre post l a r,F l a=some r->bc (.fresh ty E.size) T Γ FU fn (some (.buf 0 0 E.size pre.length l.length,⟨0,ty,pre++(ae E l++post),false,true,false⟩)) (A.ds a)=some (.fresh ty E.size r.length (ae E r),none)):b6 P f (ZO ty E A F) where
 calls lent adv rk out hg:=by
  obtain⟨pre,l,post,a,r,rfl,rfl,hr,rfl,rfl⟩:=Ng hg
  exact lx hT hΓ hm hf hok (hn a) rfl (h pre post l a r hr)
 callable:=⟨fn,hf,hc⟩
theorem b6.zero {P:Program} {f:FuncId} {fn:Func} (hf:P.funcs[f]? = some fn) (hc:(fn.name == "runtime.NumGoroutine")=false∧fn.body.isNone=false) {α β:Type} {A:lz α} {F:α->Option β} {R:β->RK} (h0:∀a,F a=none):b6 P f (fX A F R) where
 calls lent adv rk out hg:=by
  obtain⟨rfl,rfl,a,r,rfl,hr,rfl⟩:=yh hg
  rw[h0]at hr
  cases hr
 callable:=⟨fn,hf,hc⟩
section
variable {h:Nat->Option Row} {Γ:Env} {g e x v d:Nat} {dst:Option Nat} {fr:List Nat} {adv rest:List D} {d0:D} {T:Nat->Option Ty} {rs:List ResultVar}
def Kk (h:Nat->Option Row) (e:Nat) (dst:Option Nat) (x v:Nat) (fr:List Nat):Option (RK×Option Row)->Option bP
 | some (.clean c,some r1)=>some ⟨c,iM h fr++[(x,some { r1 with v:=v })]⟩
 | some (.same s o n,some r1)=>some ⟨.buf x v s o n,iM h fr++[(x,some { r1 with v:=v })]⟩
 | some (.fresh ty s n cells,none) =>
  match dst with
  | some d=>if fr.contains d=false then some ⟨.buf d e s 0 n,iM h fr++[(x,none),(d,some ⟨e,ty,cells,false,true,false⟩)]⟩ else none
  | none=>none
 | _=>none
def Vu (Γ:Env) (h:Nat->Option Row) (e:Nat) (dst:Option Nat) (g x v:Nat) (d0:D) (r:Row):Option (List D×List Nat)->Option bP
 | some (adv,fr)=>if fr.contains x=false then Kk h e dst x v fr (Γ.sem g (some (d0,r)) adv) else none
 | none=>none
def Vt (Γ:Env) (h:Nat->Option Row) (e:Nat) (dst:Option Nat) (g x v:Nat) (d0:D) (rest:List D):Option Row->Option bP
 | some r=>if r.fz=false then Vu Γ h e dst g x v d0 { r with v:=0 } (bl h rest) else none
 | none=>none
theorem Kl {s o n:Nat} : BR true Γ h e dst g (.buf x v s o n::rest)=Vt Γ h e dst g x v (.buf 0 0 s o n) rest (live h x v):=by
 simp only[BR,if_true,sX]
 cases live h x v with
 | none=>rfl
 | some r =>
  simp only[Vt]
  cases bl h rest with
  | none=>rfl
  | some p=>rfl
theorem BU {r:Row} : Vt Γ h e dst g x v d0 rest (some r)=if r.fz=false then Vu Γ h e dst g x v d0 { r with v:=0 } (bl h rest) else none:=agq
theorem BV {r:Row} : Vu Γ h e dst g x v d0 r (some (adv,fr))=if fr.contains x=false then Kk h e dst x v fr (Γ.sem g (some (d0,r)) adv) else none:=agq
theorem zH {c:D} {v' ty:Nat} {cells:List D} {fz lst:Bool} : Kk h e dst x v fr (some (.clean c,some ⟨v',ty,cells,fz,lst,false⟩))=some ⟨c,iM h fr++[(x,some ⟨v,ty,cells,fz,lst,false⟩)]⟩:=agq
theorem BW {s o n v' ty:Nat} {cells:List D} {fz lst:Bool} : Kk h e dst x v fr (some (.same s o n,some ⟨v',ty,cells,fz,lst,false⟩))=some ⟨.buf x v s o n,iM h fr++[(x,some ⟨v,ty,cells,fz,lst,false⟩)]⟩:=agq
theorem zI {s n ty:Nat} {cells:List D} : Kk h e (some d) x v fr (some (.fresh ty s n cells,none))=if fr.contains d=false then some ⟨.buf d e s 0 n,iM h fr++[(x,none),(d,some ⟨e,ty,cells,false,true,false⟩)]⟩ else none:=agq
theorem Ae {ty sz i:Nat} {t:Nat->D} {l:D×Row} : jo (.fresh ty sz) T (some l) [.tmp i] ⟨t,h,e⟩=mw ty sz h (t i):=agq
def abf (y v s o:Nat):Option Row->Option Ty->Option (Nat×Nat)->Option bP
 | some _,some φ,some (l,k)=>if φ.size=s∧0<s then some ⟨.buf y v s (o+l*s) (k-l),[]⟩ else none
 | _,_,_=>none
theorem Gw {y v s o l k:Nat} {r:Row} {φ:Ty} : abf y v s o (some r) (some φ) (some (l,k))=if φ.size=s∧0<s then some ⟨.buf y v s (o+l*s) (k-l),[]⟩ else none:=agq
theorem R6 {el b c y v s o n:Nat} {z:List Value} {q:Bool} {lo hi:Option D} : cC T ⟨.slice el,b,c,z,q⟩ h (.buf y v s o n) lo hi none=abf y v s o (live h y v) (T el) (tI n lo hi):=by
 simp only[cC]
 cases live h y v with
 | none=>rfl
 | some r =>
  simp only
  cases T el with
  | none=>rfl
  | some φ =>
   cases tI n lo hi with
   | none=>rfl
   | some p=>rfl
def aam (ty:Nat):Option (List D×List Nat)->Option Row->Option (RK×Option Row)
 | some (ds,fr),some r=>if r.v=0∧r.fz=false∧r.ty=ty∧r.mp=false∧fr.contains 0=false then some (.clean (mI ds),some r) else none
 | _,_=>none
theorem Gt {ty:Nat} {ds:List D} {r:Row} : aam ty (some (ds,fr)) (some r)=if r.v=0∧r.fz=false∧r.ty=ty∧r.mp=false∧fr.contains 0=false then some (.clean (mI ds),some r) else none:=agq
theorem Gu {t:Nat->D} {ty v:Nat} {cells:List D} {fz lst:Bool} : jo .clean T (some (d0,⟨v,ty,cells,fz,lst,false⟩)) rs ⟨t,h,e⟩=aam ty (ux T ⟨t,h,e⟩ rs) (h 0):=by
 simp only[jo,tX,lQ,YN,aam]
 cases ux T ⟨t,h,e⟩ rs with
 | none=>rfl
 | some p =>
  obtain⟨ds,fr⟩:=p
  cases h 0 with
  | none=>rfl
  | some r =>
   simp only
   by_cases h1:r.v=0∧r.fz=false∧r.ty=ty∧r.mp=false
   ·rw[if_pos h1]
    simp only[aec]
    by_cases h2:fr.contains 0=false
    ·rw[if_pos h2,if_pos ⟨h1.1,h1.2.1,h1.2.2.1,h1.2.2.2,h2⟩]
    ·rw[if_neg h2,if_neg (fun hh=>h2 hh.2.2.2.2)]
   ·rw[if_neg h1,if_neg (fun hh=>h1 ⟨hh.1,hh.2.1,hh.2.2.1,hh.2.2.2.1⟩)]
def Ys (ty:Nat):D->Option Row->Option (RK×Option Row)
 | .buf 0 0 s o n,some r=>if r.v=0∧r.fz=false∧r.ty=ty∧r.mp=false then some (.same s o n,some r) else none
 | _,_=>none
theorem Lw {ty s o n:Nat} {r:Row} : Ys ty (.buf 0 0 s o n) (some r)=if r.v=0∧r.fz=false∧r.ty=ty∧r.mp=false then some (.same s o n,some r) else none:=agq
theorem Gv {t:Nat->D} {ty v i:Nat} {cells:List D} {fz lst:Bool} : jo .same T (some (d0,⟨v,ty,cells,fz,lst,false⟩)) [.tmp i] ⟨t,h,e⟩=Ys ty (t i) (h 0):=by
 simp only[jo,Bf,lQ]
 generalize t i=q
 cases q with
 | buf a b s o n =>
  cases h 0 with
  | none=>rcases a with _|a<;>rcases b with _|b<;>rfl
  | some r =>
   simp only
   by_cases h1:r.v=0∧r.fz=false∧r.ty=ty∧r.mp=false
   ·rcases a with _|a<;>rcases b with _|b<;>simp[Ys,h1]
   ·rcases a with _|a<;>rcases b with _|b<;>simp[Ys,h1]
 | _=>rfl
end
section
variable {α:Type} (E:iC α) {l m u x:List α} {y y':α} {i a b:Int} {pre post:List D}
theorem Y3 (h:A9 l a b=some x):ae E (l.take a.toNat)++(ae E x++ae E (l.drop b.toNat))=ae E l:=by
 unfold A9 at h
 split at h
 ·rename_i hc
  cases h
  rw[<- fB,<- fB]
  congr 1
  have e:l.drop b.toNat=(l.drop a.toNat).drop (b.toNat-a.toNat):=by rw[afk];congr 1;omega
  rw[e,afl,afl]
 ·cases h
theorem Y4 (h:A9 l a b=some x):(ae E (l.take a.toNat)).length=a.toNat*E.size:=by
 unfold A9 at h
 split at h
 ·rw[bN,adT,aeF (by omega)]
 ·cases h
theorem Z6 (h:A9 l a b=some x):x.length=b.toNat-a.toNat:=by
 unfold A9 at h
 split at h
 ·cases h
  simp
  omega
 ·cases h
theorem Y2:ae E (l.take i.toNat)++(ae E u++ae E (l.drop b.toNat))=ae E (l.take i.toNat++(u++l.drop b.toNat)):=by rw[fB,fB]
theorem Wo (h:P.idx l i=some y):(pre++(ae E l++post)).drop (pre.length+i.toNat*E.size)=E.cells y++(ae E (l.drop (i.toNat+1))++post):=by
 rw[<- afk,List.drop_left,aeP (by rw[bN];have:=jQ E h;omega),yb E h,aeO]
theorem Wp (h:P.idx l i=some y):pre.length+i.toNat*E.size+E.size<=(pre++(ae E l++post)).length:=by
 have:=jQ E h
 rw[aeC,aeC,bN]
 omega
theorem Mj (h:P.idx l i=some y):(0<=i∧i<l.length)∧(pre++(ae E l++post)).drop (pre.length+i.toNat*E.size)=E.cells y++(ae E (l.drop (i.toNat+1))++post)∧pre.length+i.toNat*E.size+E.size<=(pre++(ae E l++post)).length:=⟨pb h,Wo E h,Wp E h⟩
theorem NV (h:P.idx l i=some y):putCells (pre++(ae E l++post)) (pre.length+i.toNat*E.size) (E.cells y')=pre++(ae E (l.set i.toNat y')++post):=by
 have h1:=W0 E (x':=y') h
 have hf:=jQ E h
 have hl:=bN E l
 unfold putCells at h1 ⊢
 rw[<- h1,E.len]
 have e1:(pre++(ae E l++post)).take (pre.length+i.toNat*E.size)=pre++(ae E l).take (i.toNat*E.size):=by
  rw[aeR,aeT (by omega),aeQ,aeS (by omega)]
 have e2:(pre++(ae E l++post)).drop (pre.length+i.toNat*E.size+E.size)=(ae E l).drop (i.toNat*E.size+E.size)++post:=by
  rw[adV,afh,afi (by omega),aeQ,aff,aeP (by omega)]
 rw[e1,e2]
 simp only[aeO]
theorem XY (h:A9 l a b=some x) (hu:u.length=x.length):(l.take a.toNat++(u++l.drop b.toNat)).length=l.length:=by
 have hn:=Z6 h
 unfold A9 at h
 split at h
 ·simp only[aeC,adT,adU]
  omega
 ·cases h
theorem YV (h:A9 l 0 b=some x):pre.length+x.length*E.size<=(pre++(ae E l++post)).length∧((pre++(ae E l++post)).drop pre.length).take (x.length*E.size)=ae E x:=by
 obtain⟨h1,h2,h3,h4,h5⟩:=JM E h
 have:=aem E.size h3
 refine⟨by rw[aeC,aeC,bN];omega,?_⟩
 rw[List.drop_left,aeS (by rw[bN];exact this),h5]
end
section
variable {h:Nat->Option Row} {Γ:Env} {e:Nat} {dst:Option Nat}
def caP:Option (D×List Nat)->Option (List D×List Nat)->Option (List D×List Nat)
 | some (d,fr),some (ds,fr')=>some (d::ds,fr++fr')
 | _,_=>none
theorem Kj {d:D} {ds:List D} {fr fr':List Nat} : caP (some (d,fr)) (some (ds,fr'))=some (d::ds,fr++fr'):=agq
theorem Kz:cM h []=some ([],[]):=agq
theorem FV {d:D} {ds:List D} : cM h (d::ds)=caP (aN h d) (cM h ds):=by
 simp only[cM]
 cases aN h d with
 | none=>rfl
 | some x=>cases cM h ds<;>rfl
theorem RE {k:IntKind} {n:Int} : aN h (.int k n)=some (.int k n,[]):=agq
theorem Ky {b:Bool} : aN h (.bool b)=some (.bool b,[]):=agq
theorem RH {b:ByteArray} : aN h (.str b)=some (.str b,[]):=agq
theorem VD {a b:Bool} {n:Nat} {xs:List D} : aN h (.sl a b n xs)=some (.sl false false n xs,[]):=agq
theorem RD {xs:List D} : aN h (.agg xs)=some (.agg (xs.map canon),[]):=agq
theorem Vz {f:Nat} : aN h (.fn f)=some (.fn f,[]):=agq
def clC (f k:Nat):Option (List D×List Nat)->Option (D×List Nat)
 | some (ys,fr)=>some (.clo f k ys,fr)
 | none=>none
theorem KJ {f k:Nat} {ys:List D} {fr:List Nat} : clC f k (some (ys,fr))=some (.clo f k ys,fr):=agq
theorem KD {f k:Nat} {xs:List D} : bp h (.clo f k xs)=clC f k (cM h xs):=by
 simp only[bp]
 cases cM h xs<;>rfl
theorem Kv {g k:Nat} {caps args:List D} : gT Γ h e dst (.clo g k caps) args=if caps.all jn then BR false Γ h e dst g (caps.take k++(args++caps.drop k)) else none:=by
 simp only[gT,BR,aea,if_false]
theorem SI {k:IntKind} {n:Int} : jn (.int k n)=true:=agq
theorem NO {b:Bool} : jn (.bool b)=true:=agq
theorem SL {b:ByteArray} : jn (.str b)=true:=agq
theorem WS {a b:Bool} {n:Nat} {xs:List D} : jn (.sl a b n xs)=true:=agq
theorem SH {xs:List D} : jn (.agg xs)=true:=agq
theorem WN {f:Nat} : jn (.fn f)=true:=agq
end
theorem DY:mI []=.tup []:=agq
def aFn (f:Nat):Arg Unit:=⟨fun _ =>.fn f,fun _ _ _=>rfl⟩
theorem vm7:type_of% (ai @Kj<|ai @Kz<|ai @FV<|ai @RE<|ai @Ky<|ai @RH<|ai @VD<|ai @RD<|ai @Vz<|ai @KJ<|ai @KD<|ai @Kv<|ai @SI<|ai @NO<|ai @SL<|ai @WS<|ai @SH<|ai @WN<|ai @DY<|ai @xH<|ai @xK<|@Bc):=⟨@Kj,@Kz,@FV,@RE,@Ky,@RH,@VD,@RD,@Vz,@KJ,@KD,@Kv,@SI,@NO,@SL,@WS,@SH,@WN,@DY,@xH,@xK,@Bc⟩
theorem vm6:type_of% (ai @N3<|ai @aeA<|ai @R6<|ai @Gw<|ai @zI<|ai @Ae<|ai @Kl<|ai @BU<|ai @BV<|ai @zH<|ai @BW<|ai @Gt<|ai @Gu<|ai @Lw<|@Gv):=⟨@N3,@aeA,@R6,@Gw,@zI,@Ae,@Kl,@BU,@BV,@zH,@BW,@Gt,@Gu,@Lw,@Gv⟩
section
variable {T:Nat->Option Ty} {h:Nat->Option Row} {τ:Ty} {q:Nat->Bool}
theorem Wx {x v o:Nat} : nc τ h (.ptr x v o)=nI τ h x v o (live h x v):=agq
theorem Zv {xs:List D} : nc τ h (.ip xs)=di τ h (.ip xs):=agq
theorem Zt {x v o v' ty:Nat} {c:List D} {fz:Bool} : nI τ h x v o (some ⟨v',ty,c,fz,true,false⟩)=di τ h (.ptr x v o):=by
 simp only[nI,aeV,Bool.and_false,aea,if_false]
theorem Zu {x v o v' ty:Nat} {c:List D} {lst:Bool} : nI τ h x v o (some ⟨v',ty,c,false,lst,false⟩)=di τ h (.ptr x v o):=by
 simp only[nI,afx,aea,if_false]
def ldA:Option D->Option bP->Option bP
 | some d,_=>some ⟨d,[]⟩
 | none,E=>E
theorem Mx {d:D} {E:Option bP} : ldA (some d) E=some ⟨d,[]⟩:=agq
theorem Mw {E:Option bP} : ldA none E=E:=agq
theorem Zs {x v o v' ty:Nat} {c:List D} : nI τ h x v o (some ⟨v',ty,c,true,false,false⟩)=if o+τ.size<=c.length then ldA (O1 τ.ds.pc ((c.drop o).take τ.size)) (di τ h (.ptr x v o)) else none:=by
 simp only[nI,afy,aft,if_true]
 cases O1 τ.ds.pc ((c.drop o).take τ.size)<;>rfl
theorem Vf {x v s o n:Nat} : O1 true [.ali x v s o n]=some (.box1 x v s o n):=agq
theorem Ve {x v s o n:Nat} : O1 false [.ali x v s o n]=some (.buf x v s o n):=agq
theorem Tc {p:D} {k:IntKind} {n:Int} : cQ τ h p (.int k n)=cI τ h p (.int k n):=agq
theorem OB {p:D} {b:Bool} : cQ τ h p (.bool b)=cI τ h p (.bool b):=agq
theorem Te {p:D} {b:ByteArray} : cQ τ h p (.str b)=cI τ h p (.str b):=agq
theorem Xm {p:D} {a b:Bool} {n:Nat} {xs:List D} : cQ τ h p (.sl a b n xs)=cI τ h p (.sl a b n xs):=agq
theorem Td {p:D} {x v o:Nat} : cQ τ h p (.ptr x v o)=cI τ h p (.ptr x v o):=agq
theorem Xj {p:D} {xs:List D} : cQ τ h p (.ip xs)=cI τ h p (.ip xs):=agq
theorem Ta {p:D} {x v s o n:Nat} : cQ τ h p (.buf x v s o n)=cI τ h p (.buf x v s o n):=agq
theorem S8 {p:D} {xs:List D} : cQ τ h p (.agg xs)=cI τ h p (.agg xs):=agq
theorem Xi {p:D} {f:Nat} : cQ τ h p (.fn f)=cI τ h p (.fn f):=agq
theorem Tb {p:D} {f k:Nat} {xs:List D} : cQ τ h p (.clo f k xs)=cI τ h p (.clo f k xs):=agq
theorem Tf {p:D}  : cQ τ h p (.und)=cI τ h p (.und):=agq
def abM (τ:Ty) (x o y vy s oy n:Nat):Option Row->Option bP
 | some r=>if τ.size=1∧o=0∧r.cells.length=1∧r.fz=false∧r.lst=false then some ⟨.und,[(x,some ⟨r.v,r.ty,[.ali y vy s oy n],true,false,false⟩)]⟩ else none
 | none=>none
theorem Ih {x o y vy s oy n:Nat} {r:Row} : abM τ x o y vy s oy n (some r)=if τ.size=1∧o=0∧r.cells.length=1∧r.fz=false∧r.lst=false then some ⟨.und,[(x,some ⟨r.v,r.ty,[.ali y vy s oy n],true,false,false⟩)]⟩ else none:=agq
theorem S9 {x v o y vy s oy n:Nat} : cQ τ h (.ptr x v o) (.box1 y vy s oy n)=abM τ x o y vy s oy n (live h x v):=by
 simp only[cQ]
 cases live h x v<;>rfl
def Kf (b:Bool) (T:Nat->Option Ty) (τ:Ty) (h:Nat->Option Row) (ps:List (Nat×D)):Option bP :=
 if b then eE T τ h ps else
  match τ.ds,ps with
  | .struct fs,[(0,.buf x v s o n)]=>if (alive h (.buf x v s o n))∧(fs.all fun f=>(T f.1).isSome)∧fieldAt T fs 0=some (0,1)∧τ.zero.length=1 then some ⟨.box1 x v s o n,[]⟩ else none
  | .struct fs,[(0,.box1 x v s o n)]=>if (alive h (.buf x v s o n))∧(fs.all fun f=>(T f.1).isSome)∧fieldAt T fs 0=some (0,1)∧τ.zero.length=1 then some ⟨.box1 x v s o n,[]⟩ else none
  | _,_=>cE (eE T τ h ps)
theorem Ry {d:Nat} {ps:List (Nat×D)} : oS q T τ h (some d) ps=Kf (q d) T τ h ps:=agq
theorem FB:Kf false T τ h []=cE (eE T τ h []):=by
 unfold Kf
 rw[if_neg (by simp)]
 cases τ.ds<;>rfl
theorem Vp {cs:List D} {hw:List (Nat×Option Row)} : cE (some ⟨.agg cs,hw⟩)=some ⟨.agg (cs.map canon),hw⟩:=agq
theorem FC {ps:List (Nat×D)} : Kf true T τ h ps=eE T τ h ps:=agq
def Vm (T:Nat->Option Ty) (h:Nat->Option Row) (nz x v s o n:Nat):Ds->Option bP
 | .struct fs=>if (alive h (.buf x v s o n))∧(fs.all fun f=>(T f.1).isSome)∧fieldAt T fs 0=some (0,1)∧nz=1 then some ⟨.box1 x v s o n,[]⟩ else none
 | _=>none
theorem Vn {nz x v s o n:Nat} {fs:List (Nat×Nat)} : Vm T h nz x v s o n (.struct fs)=if (alive h (.buf x v s o n))∧(fs.all fun f=>(T f.1).isSome)∧fieldAt T fs 0=some (0,1)∧nz=1 then some ⟨.box1 x v s o n,[]⟩ else none:=agq
theorem Kg {x v s o n:Nat} : Kf false T τ h [(0,.box1 x v s o n)]=Vm T h τ.zero.length x v s o n τ.ds:=by
 unfold Kf Vm eE
 rw[if_neg (by simp)]
 cases τ.ds<;>rfl
theorem BN {x v s o n:Nat} : Kf false T τ h [(0,.buf x v s o n)]=Vm T h τ.zero.length x v s o n τ.ds:=by
 unfold Kf Vm eE
 rw[if_neg (by simp)]
 cases τ.ds<;>rfl
def clX:Option (D×List Nat)->Option (D×List Nat)
 | some (d,fr)=>some (.agg [d],fr)
 | none=>none
theorem KQ {d:D} {fr:List Nat} : clX (some (d,fr))=some (.agg [d],fr):=agq
theorem KB {x v s o n:Nat} : bp h (.box1 x v s o n)=clX (Yi x s o n (live h x v)):=by
 simp only[bp,aN,cY]
 cases live h x v with
 | none=>rfl
 | some r=>by_cases hc:o+n*s<=r.cells.length<;>simp[Yi,clX,hc,canon]
theorem WK {x v s o n:Nat} : nm (.box1 x v s o n)=[x]:=agq
theorem Fs {x v s o n:Nat} : alive h (.buf x v s o n)=(nk h x v).isSome:=agq
theorem GB {fs:List (Nat×Nat)} {ft off:Nat} : fieldAt T ((ft,off)::fs) 0=(T ft).map fun φ=>(off,φ.size):=by
 simp only[fieldAt,List.getElem?_cons_zero]
 cases T ft<;>rfl
end
theorem vm8:type_of% (ai @Wx<|ai @Zv<|ai @Zt<|ai @Zu<|ai @Mx<|ai @Mw<|ai @Zs<|ai @Vf<|ai @Ve<|ai @Tc<|ai @OB<|ai @Te<|ai @Xm<|ai @Td<|ai @Xj<|ai @Ta<|ai @S8<|ai @Xi<|ai @Tb<|ai @Tf<|ai @S9<|ai @Ih<|ai @Ry<|ai @FC<|ai @Vn<|ai @BN<|ai @FB<|ai @Kg<|ai @Vp<|ai @KQ<|ai @KB<|ai @WK<|ai @Fs<|@GB):=⟨@Wx,@Zv,@Zt,@Zu,@Mx,@Mw,@Zs,@Vf,@Ve,@Tc,@OB,@Te,@Xm,@Td,@Xj,@Ta,@S8,@Xi,@Tb,@Tf,@S9,@Ih,@Ry,@FC,@Vn,@BN,@FB,@Kg,@Vp,@KQ,@KB,@WK,@Fs,@GB⟩
theorem acd:type_of% (ai @UT<|ai @Y5<|ai @HV<|ai @SW<|ai @Xa<|ai @W9<|ai @Nm<|ai @Nl<|ai @ZX<|ai @GM<|ai @GL<|ai @LH<|ai @Hk<|ai @Dp<|ai @No<|ai @SF<|ai @SN<|ai @SV<|ai @MI<|ai @WA<|ai @Sr<|ai @GW<|ai @Sp<|ai @My<|ai @GX<|ai @Mz<|ai @Sq<|ai @S3<|ai @H6<|ai @H7<|ai @HW<|ai @H9<|ai @H5<|ai @Ow<|ai @H8<|ai @Ox<|ai @S2<|ai @Ov<|ai @Ie<|@jN):=⟨@UT,@Y5,@HV,@SW,@Xa,@W9,@Nm,@Nl,@ZX,@GM,@GL,@LH,@Hk,@Dp,@No,@SF,@SN,@SV,@MI,@WA,@Sr,@GW,@Sp,@My,@GX,@Mz,@Sq,@S3,@H6,@H7,@HW,@H9,@H5,@Ow,@H8,@Ox,@S2,@Ov,@Ie,@jN⟩
theorem ace:type_of% (ai @R9<|ai @Mt<|ai @Mg<|ai @Mn<|ai @Ma<|ai @Hg<|ai @NA<|ai @Du<|ai @NC<|ai @NB<|ai @Ho<|ai @Nz<|ai @Ny<|ai @H0<|ai @Ib<|ai @HZ<|ai @Ia<|ai @SZ<|ai @S4<|ai @H2<|ai @Ic<|ai @On<|ai @Oy<|ai @G8<|ai @G9<|ai @Ot<|ai @H3<|ai @Ou<|ai @H4<|ai @S1<|ai @Oq<|ai @Fw<|ai @Fv<|@nk.eq_1):=⟨@R9,@Mt,@Mg,@Mn,@Ma,@Hg,@NA,@Du,@NC,@NB,@Ho,@Nz,@Ny,@H0,@Ib,@HZ,@Ia,@SZ,@S4,@H2,@Ic,@On,@Oy,@G8,@G9,@Ot,@H3,@Ou,@H4,@S1,@Oq,@Fw,@Fv,@nk.eq_1⟩
theorem acf:type_of% (ai @Wd<|ai @Sn<|ai @Sh<|ai @Sl<|ai @Se<|ai @SG<|ai @Hf<|ai @Hi<|ai @MM<|ai @MP<|ai @Db<|ai @MQ<|ai @MO<|ai @G3<|ai @ML<|ai @MK<|ai @MN<|ai @Nw<|ai @Nt<|ai @Dt<|ai @Nx<|ai @Nv<|ai @Hn<|ai @Ns<|ai @Nr<|ai @Nu<|ai @FN<|ai @zP<|ai @zN<|ai @zO<|ai @KT<|ai @KU<|ai @V5<|ai @RZ<|ai @V4<|ai @RY<|ai @Lh<|ai @Li<|ai @Lj<|ai @Kp<|ai @FM<|ai @Ol<|ai @HX<|ai @Om<|ai @HY<|ai @xT<|ai @dm<|ai @xS<|ai @dk<|ai @R5<|ai @Lv<|ai @R2<|ai @Gs<|@Lt):=⟨@Wd,@Sn,@Sh,@Sl,@Se,@SG,@Hf,@Hi,@MM,@MP,@Db,@MQ,@MO,@G3,@ML,@MK,@MN,@Nw,@Nt,@Dt,@Nx,@Nv,@Hn,@Ns,@Nr,@Nu,@FN,@zP,@zN,@zO,@KT,@KU,@V5,@RZ,@V4,@RY,@Lh,@Li,@Lj,@Kp,@FM,@Ol,@HX,@Om,@HY,@xT,@dm,@xS,@dk,@R5,@Lv,@R2,@Gs,@Lt⟩
theorem v:type_of% (ai @vmc<|ai @vmk<|ai @vm1<|ai @vm2<|ai @vm3<|ai @vm4<|ai @vm5<|ai @vm6<|ai @vm7<|ai @vm8<|ai @aca<|ai @acd<|ai @ace<|ai @acf<|ai @vmu<|ai @Option.toList_some.{0}<|@Option.toList_none.{0}):=⟨@vmc,@vmk,@vm1,@vm2,@vm3,@vm4,@vm5,@vm6,@vm7,@vm8,@aca,@acd,@ace,@acf,@vmu,@Option.toList_some.{0},@Option.toList_none.{0}⟩
def Dh {α:Type} : List (Int×α)->List Int
 | []=>[]
 | (k,_)::m=>k::Dh m
def Us {α:Type} (A:Arg α):List (Int×α)->List D
 | []=>[]
 | (_,v)::m=>A.d v::Us A m
section
variable {α:Type} {A:Arg α}
theorem Na:Dh ([]:List (Int×α))=[]:=agq
theorem Nf:Us A []=[]:=agq
theorem M9 (n:Int):∀m:List (Int×α),(Dh m).contains n=Yv m n
 | []=>rfl
 | (k,v)::m=>by
  have:=M9 n m
  simp only[Dh,aeA,Yv,this]
  congr 1
  exact Bool.beq_comm
theorem map_inj:∀ {m m':List (Int×α)},Dh m=Dh m'->Us A m=Us A m'->m=m'
 | [],[],_,_=>rfl
 | [],(k,v)::m',h,_=>by simp[Dh]at h
 | (k,v)::m,[],h,_=>by simp[Dh]at h
 | (k,v)::m,(k',v')::m',h,g=>by
  simp only[Dh,adY]at h
  simp only[Us,adY]at g
  rw[h.1,A.inj _ _ g.1,map_inj h.2 g.2]
end
def eMp {α:Type} (A:Arg α):iC (List (Int×α)):=⟨fun m=>[.mpc (Dh m) (Us A m)],1,fun _=>rfl,by decide,fun x y h=>by
 simp only[adY,D.mpc.injEq,and_true]at h
 exact map_inj h.1 h.2⟩
theorem Lk {α:Type} (A:Arg α):(eMp A).size=1:=agq
def aIp {α:Type} (e:iC α):Arg α:=⟨fun x =>.ip (e.cells x),fun x y h=>e.inj _ _ (by simpa using h)⟩
theorem Zl {α:Type} (e:iC α) (x:α):(aIp e).d x=.ip (e.cells x):=agq
section
variable {T:Nat->Option Ty} {h:Nat->Option Row} {Γ:Env} {e:Nat} {dst:Option Nat}
def lvM (v:Nat):Option Row->Option (List Int×List D)
 | some r=>if r.v=v∧r.mp=true then (match r.cells with | [.mpc ks vs]=>some (ks,vs)|_=>none) else none
 | none=>none
theorem MH {x v:Nat} : iu h x v=lvM v (h x):=by
 unfold iu lvM
 cases h x<;>rfl
theorem MS {v ty:Nat} {ks:List Int} {vs:List D} {fz lst:Bool} : lvM v (some ⟨v,ty,[.mpc ks vs],fz,lst,true⟩)=some (ks,vs):=by simp[lvM]
def lkK (ks:List Int) (n:Int):Bool:=ks.contains n
theorem Sv {α:Type} {m:List (Int×α)} {n:Int} : lkK (Dh m) n=Yv m n:=M9 n m
def lkE (ok:Bool) (z:D) (n:Int):Option (List Int×List D)->Option bP
 | some (ks,vs)=>some ⟨if ok then .tup [s4 z ks vs n,.bool (lkK ks n)] else s4 z ks vs n,[]⟩
 | none=>none
theorem ZM {z:D} {n:Int} {ks:List Int} {vs:List D} : lkE true z n (some (ks,vs))=some ⟨.tup [s4 z ks vs n,.bool (lkK ks n)],[]⟩:=agq
theorem ZL {z:D} {n:Int} {ks:List Int} {vs:List D} : lkE false z n (some (ks,vs))=some ⟨s4 z ks vs n,[]⟩:=agq
theorem Nc {x v:Nat} : mapOf h (.mp x v)=iu h x v:=agq
theorem G5 {ks:List Int} {vs:List D} : mapOf h (.mpc ks vs)=some (ks,vs):=agq
def muR (h:Nat->Option Row) (y:Nat) (n:Int) (d:D) (fr:List Nat) (ks:List Int) (vs:List D):Option Row->Option bP
 | some r=>if r.fz=false∧fr.contains y=false then some ⟨.und,iM h fr++[(y,some ⟨r.v,r.ty,[.mpc (A6 ks n) (JD ks vs n d)],false,true,true⟩)]⟩ else none
 | none=>none
theorem Nj {y v ty:Nat} {n:Int} {d:D} {fr:List Nat} {ks:List Int} {vs:List D} {cells:List D} {lst mp:Bool} : muR h y n d fr ks vs (some ⟨v,ty,cells,false,lst,mp⟩)=if fr.contains y=false then some ⟨.und,iM h fr++[(y,some ⟨v,ty,[.mpc (A6 ks n) (JD ks vs n d)],false,true,true⟩)]⟩ else none:=by
 simp only[muR,true_and]
def muM (h:Nat->Option Row) (y:Nat) (n:Int) (d:D) (fr:List Nat):Option (List Int×List D)->Option bP
 | some (ks,vs)=>muR h y n d fr ks vs (h y)
 | none=>none
theorem Ni {y:Nat} {n:Int} {d:D} {fr:List Nat} {ks:List Int} {vs:List D} : muM h y n d fr (some (ks,vs))=muR h y n d fr ks vs (h y):=agq
def muE (h:Nat->Option Row) (y v:Nat) (n:Int):Option (D×List Nat)->Option bP
 | some (d,fr)=>muM h y n d fr (iu h y v)
 | none=>none
theorem Nh {y v:Nat} {n:Int} {d:D} {fr:List Nat} : muE h y v n (some (d,fr))=muM h y n d fr (iu h y v):=agq
theorem OI {k:IntKind} {n:Int} : xo h (.int k n)=some (.int k n,[]):=agq
theorem Ir {b:Bool} : xo h (.bool b)=some (.bool b,[]):=agq
theorem OH {xs:List D} : xo h (.agg xs)=some (.agg (xs.map canon),[]):=agq
def ldP (τ:Ty) (h:Nat->Option Row) (x v y:Nat):Option Row->Option bP
 | some r=>match r.cells with
  | [.alm y' v']=>if r.fz=true∧r.lst=false∧τ.size=1∧τ.ds.pc=false then some ⟨.mp y' v',[]⟩ else none
  | _=>none
 | none=>oU τ h x v y (lh h x v)
theorem Zw {τ:Ty} {x v y:Nat} : nc τ h (.pm x v y)=ldP τ h x v y (live h x v):=by
 simp only[nc]
 cases live h x v with
 | none=>rfl
 | some r =>
  obtain⟨v',ty,cells,fz,lst,mp⟩:=r
  rcases cells with _|⟨c,_|⟨c',cs⟩⟩<;>rfl
theorem MA {τ:Ty} {x v y:Nat} : ldP τ h x v y none=oU τ h x v y (lh h x v):=agq
def ldQ (τ:Ty) (h:Nat->Option Row) (x y s n:Nat):Option Row->Option bP
 | some r=>if y=1000000+x∧r.mp=false∧r.lst=true∧r.cells.length=n*s∧τ.size=1 then some ⟨if τ.ds.pc then .agg [.sl false false n r.cells] else .sl false false n r.cells,iM h [y]⟩ else none
 | none=>none
theorem Ww {τ:Ty} {r:Row} {x v y s n:Nat} : oU τ h x v y (some (r,y,s,n))=ldQ τ h x y s n (h y):=by
 simp only[oU,ldQ,PK]
 cases h y with
 | none=>rfl
 | some q=>simp
theorem MC {ty b:Nat} {ds:Ds} {z:List Value} {q:Bool} {x y s n e':Nat} {cells:List D} {fz:Bool} : ldQ ⟨ds,1,b,z,q⟩ h x y s n (some ⟨e',ty,cells,fz,true,false⟩)=if y=1000000+x∧cells.length=n*s then some ⟨if ds.pc then .agg [.sl false false n cells] else .sl false false n cells,iM h [y]⟩ else none:=by
 simp[ldQ]
def aao (T:Nat->Option Ty) (x v k:Nat):Option (Row×Nat×Nat×Nat)->Option (Nat×Nat)->Option bP
 | some _,some (ft,0)=>match T ft with|some φ=>if φ.size=0 then none else some ⟨.pm x v k,[]⟩|none=>none
 | _,_=>none
theorem GK {T:Nat->Option Ty} {x v k ft:Nat} {r:Row×Nat×Nat×Nat} : aao T x v k (some r) (some (ft,0))=match T ft with|some φ=>if φ.size=0 then none else some ⟨.pm x v k,[]⟩|none=>none:=agq
theorem Wg {T:Nat->Option Ty} {b c:Nat} {z:List Value} {q:Bool} {fs:List (Nat×Nat)} {x v k i:Nat} : dC T ⟨.struct fs,b,c,z,q⟩ h i (.pm x v k)=aao T x v k (lh h x v) fs[i]?:=by
 simp only[dC,aao]
 cases lh h x v with
 | none=>rfl
 | some r=>simp only;generalize fs[i]? = z;rcases z with _|⟨ft,_|off⟩<;>first|rfl|(simp;done)|(simp only;cases T ft<;>rfl)
def S7 (x y s oy n k : Nat) : Option Row -> Option Row -> Option bP
  | some r, some q => if oy = 0 ∧ r.cells.length = 1 ∧ r.fz = false ∧ r.lst = false ∧ q.fz = false ∧ q.lst = true ∧ q.cells.length = n * s ∧ x ≠ y ∧ k = 1000000 + x ∧ x < 1000000 then
          some ⟨.und, [(y, none), (k, some ⟨0, q.ty, q.cells, false, true, false⟩), (x, some ⟨r.v, r.ty, [.ph k s n], false, false, true⟩)]⟩ else none
  | _, _ => none
theorem Xl {ds:Ds} {b:Nat} {z:List Value} {q:Bool} {x v y vy s oy n k:Nat} : cQ ⟨ds,1,b,z,q⟩ h (.pm x v k) (.box1 y vy s oy n)=S7 x y s oy n k (live h x v) (live h y vy):=by
 simp only[cQ,S7,PK,true_and]
 cases live h x v with
 | none=>rfl
 | some r=>cases live h y vy<;>rfl
theorem Eh {x y s oy n k v ty e' ty':Nat} {c:D} {cells:List D} : S7 x y s oy n k (some ⟨v,ty,[c],false,false,false⟩) (some ⟨e',ty',cells,false,true,false⟩)=if oy=0∧cells.length=n*s∧¬x=y∧k=1000000+x∧x<1000000 then
  some ⟨.und,[(y,none),(k,some ⟨0,ty',cells,false,true,false⟩),(x,some ⟨v,ty,[.ph k s n],false,false,true⟩)]⟩ else none:=by
 simp[S7]
theorem MB {v ty y' v':Nat} {b k el:Nat} {z:List Value} {q mp:Bool} {x0 v0 y0:Nat} : ldP ⟨.map k el,1,b,z,q⟩ h x0 v0 y0 (some ⟨v,ty,[.alm y' v'],true,false,mp⟩)=some ⟨.mp y' v',[]⟩:=by
 simp[ldP,Ds.pc]
def YZ (τ:Ty) (x y y' v':Nat) (m:Bool):Option Row->Option bP
 | some r=>if τ.size=1∧y'=y∧r.cells.length=1∧r.fz=false∧r.lst=false∧m then some ⟨.und,[(x,some ⟨r.v,r.ty,[.alm y' v'],true,false,false⟩)]⟩ else none
 | none=>none
theorem Xk {τ:Ty} {x v y y' v':Nat} : cQ τ h (.pm x v y) (.mp y' v')=YZ τ x y y' v' (iu h y v').isSome (live h x v):=by
 simp only[cQ,YZ]
 cases live h x v<;>rfl
theorem Ig {x y v' v ty:Nat} {c:D} {b:Nat} {ds:Ds} {z:List Value} {q mp:Bool} : YZ ⟨ds,1,b,z,q⟩ x y y v' true (some ⟨v,ty,[c],false,false,mp⟩)=some ⟨.und,[(x,some ⟨v,ty,[.alm y v'],true,false,false⟩)]⟩:=by
 simp[YZ]
theorem ZP {x v:Nat} : nm (.mp x v)=[x]:=agq
theorem WL {ks:List Int} {vs:List D} : nm (.mpc ks vs)=[]:=agq
theorem ZQ {x v y:Nat} : nm (.pm x v y)=[x,y]:=agq
def clM (x:Nat):Option (List Int×List D)->Option (D×List Nat)
 | some (ks,vs)=>some (.mpc ks vs,[x])
 | none=>none
theorem KL {x:Nat} {ks:List Int} {vs:List D} : clM x (some (ks,vs))=some (.mpc ks vs,[x]):=agq
theorem RL {x v:Nat} : bp h (.mp x v)=clM x (iu h x v):=by
 simp only[bp,aN,clM]
 cases iu h x v<;>rfl
theorem KF {ks:List Int} {vs:List D} : bp h (.mpc ks vs)=some (.mpc ks vs,[]):=agq
theorem VB {x v:Nat} : aN h (.mp x v)=clM x (iu h x v):=by
 simp only[aN,clM]
 cases iu h x v<;>rfl
theorem RF {ks:List Int} {vs:List D} : aN h (.mpc ks vs)=some (.mpc ks vs,[]):=agq
theorem VA {xs:List D} : aN h (.ip xs)=some (.ip xs,[]):=agq
theorem RG {x v o:Nat} : aN h (.ptr x v o)=clP x o (live h x v):=by
 simp only[aN]
 cases live h x v with
 | none=>rfl
 | some r=>simp only[clP]
def clN (x y:Nat):Option (List Int×List D)->Option (D×List Nat)
 | some (ks,vs)=>some (.ip [.mpc ks vs],[x,y])
 | none=>none
theorem KM {x y:Nat} {ks:List Int} {vs:List D} : clN x y (some (ks,vs))=some (.ip [.mpc ks vs],[x,y]):=agq
def clQ (h:Nat->Option Row) (x y:Nat):Option Row->Option (D×List Nat)
 | some r=>match r.cells with
  | [.alm y' v']=>if r.fz=true∧r.lst=false∧y'=y then clN x y (iu h y v') else none
  | _=>none
 | none=>none
theorem KP {x y v' v ty:Nat} {mp:Bool} : clQ h x y (some ⟨v,ty,[.alm y v'],true,false,mp⟩)=clN x y (iu h y v'):=by
 simp[clQ]
theorem VC {x v y:Nat} : aN h (.pm x v y)=clQ h x y (live h x v):=by
 simp only[aN]
 cases live h x v with
 | none=>rfl
 | some r =>
  obtain⟨v',ty,cells,fz,lst,mp⟩:=r
  rcases cells with _|⟨c,_|⟨c',cs⟩⟩<;>rfl
theorem SK {x v o:Nat} : jn (.ptr x v o)=true:=agq
theorem WR {x v y:Nat} : jn (.pm x v y)=true:=agq
theorem WO {xs:List D} : jn (.ip xs)=true:=agq
theorem WQ {x v:Nat} : jn (.mp x v)=true:=agq
theorem SJ {ks:List Int} {vs:List D} : jn (.mpc ks vs)=true:=agq
theorem Wj {v ty:Nat} {cells:List D} {fz mp:Bool} : qI ⟨v,ty,cells,fz,true,mp⟩=⟨v,ty,cells,true,true,mp⟩:=by cases fz<;>rfl
theorem Sg {d:Nat} : a6.hint d=none:=agq
theorem Md {f:Nat} {l:Bool} {G:Option (D×Row)->List D->Option (RK×Option Row)} {d:Nat} : (Am.ext Γ f l G).hint d=Γ.hint d:=agq
theorem GS {d i:Nat} : (Am.keep d Γ).hint i=Γ.hint i:=agq
theorem GR {d y i:Nat} : (Am.wA d y Γ).hint i=if i=d then some y else Γ.hint i:=agq
theorem Mh {d y i:Nat} : (Am.wA d y Γ).own i=Γ.own i:=agq
theorem C1 {d y i:Nat} : (Am.wA d y Γ).lends i=Γ.lends i:=agq
theorem Mi {d y i:Nat} {lent:Option (D×Row)} {adv:List D} : (Am.wA d y Γ).sem i lent adv=Γ.sem i lent adv:=agq
theorem GJ {ks:List Int} {vs:List D} : fZ (.mpc ks vs)=false:=agq
theorem FR {ks:List Int} {vs:List D} : canon (.mpc ks vs)=.mpc ks vs:=agq
theorem B2 {ks:List Int} {vs:List D} : fm (.mpc ks vs)=.mpc ks vs:=agq
end
structure te {α:Type} (E:iC α) (C:List D) (o:Nat) (l:List α):Prop where
 fit:o+l.length*E.size<=C.length
 eq:(C.drop o).take (l.length*E.size)=ae E l
theorem te.self {α:Type} (E:iC α) (l:List α):te E (ae E l) 0 l:=⟨by rw[bN];omega,by rw[aeU,<- bN,afA]⟩
theorem te.split {α:Type} {E:iC α} {C:List D} {o:Nat} {l:List α} (F:te E C o l):C.drop o=ae E l++C.drop (o+l.length*E.size):=by
 rw[<- afk]
 conv=>lhs;rw[<- afl (l.length*E.size) (C.drop o)]
 rw[F.eq]
theorem te.idx {α:Type} {E:iC α} {C:List D} {o:Nat} {l:List α} {i:Int} {x:α} (F:te E C o l) (h:P.idx l i=some x):o+i.toNat*E.size+E.size<=C.length∧∃rest,C.drop (o+i.toNat*E.size)=E.cells x++rest:=by
 have h1:=jQ E h
 have h2:=F.fit
 refine⟨by omega,ae E (l.drop (i.toNat+1))++C.drop (o+l.length*E.size),?_⟩
 rw[<- afk,F.split,aeP (by rw[bN];omega),yb E h,aeO]
theorem te.tail {α:Type} {E:iC α} {C:List D} {o:Nat} {l m:List α} {a:Int} (F:te E C o l) (h:A9 l a (l.length:Int)=some m):te E C (o+a.toNat*E.size) m:=by
 obtain⟨h1,h2,h3,h4,h5⟩:=Xb E h
 have h6:=F.fit
 have h7:a.toNat*E.size+m.length*E.size=l.length*E.size:=by rw[<- aeG];congr 1;omega
 refine⟨by omega,?_⟩
 rw[<- afk,F.split,aeP (by rw[bN];omega),aeS (by rw[adU,bN];omega),h5]
theorem acg:type_of% (ai @Na<|ai @Nf<|ai @MH<|ai @MS<|ai @Sv<|ai @ZM<|ai @ZL<|ai @Nc<|ai @G5<|ai @Nj<|ai @Ni<|ai @Nh<|ai @OI<|ai @Ir<|ai @OH<|ai @Zw<|ai @MB<|ai @Xk<|ai @Ig<|ai @ZP<|ai @WL<|@ZQ):=⟨@Na,@Nf,@MH,@MS,@Sv,@ZM,@ZL,@Nc,@G5,@Nj,@Ni,@Nh,@OI,@Ir,@OH,@Zw,@MB,@Xk,@Ig,@ZP,@WL,@ZQ⟩
theorem ach:type_of% (ai @KL<|ai @RL<|ai @KF<|ai @VB<|ai @RF<|ai @VA<|ai @RG<|ai @KM<|ai @KP<|ai @VC<|ai @SK<|ai @WR<|ai @WO<|ai @WQ<|ai @SJ<|ai @Wk<|ai @Wi<|ai @Wj<|ai @Sg<|ai @Md<|ai @GS<|ai @GR<|ai @Mh<|ai @C1<|ai @Mi<|ai @Hz<|ai @Hy<|ai @GJ<|ai @FR<|ai @B2<|ai @Lk<|@Zl):=⟨@KL,@RL,@KF,@VB,@RF,@VA,@RG,@KM,@KP,@VC,@SK,@WR,@WO,@WQ,@SJ,@Wk,@Wi,@Wj,@Sg,@Md,@GS,@GR,@Mh,@C1,@Mi,@Hz,@Hy,@GJ,@FR,@B2,@Lk,@Zl⟩
theorem aci:type_of% (ai @zX<|ai @z7<|ai @Ce<|ai @Ch<|ai @wk<|ai @wv<|ai @Cd<|ai @Cg<|ai @wK<|ai @yC<|ai @td<|ai @yB<|ai @Vj<|ai @Rq<|@Vk):=⟨@zX,@z7,@Ce,@Ch,@wk,@wv,@Cd,@Cg,@wK,@yC,@td,@yB,@Vj,@Rq,@Vk⟩
theorem acb:type_of% (ai @MA<|ai @Ww<|ai @MC<|ai @Xl<|ai @Eh<|ai @GK<|@Wg):=⟨@MA,@Ww,@MC,@Xl,@Eh,@GK,@Wg⟩
theorem vi:type_of% (ai @acg<|ai @ach<|ai @acb<|@aci):=⟨@acg,@ach,@acb,@aci⟩
end Go.Proofs.Ytchndpjlijbplaa.Am
namespace Go.Proofs.Ytchndpjlijbplaa.P
open Go.RowKit
set_option linter.unusedSimpArgs false
set_option linter.unusedVariables false
theorem wrap64 {x:Int} (h1 : -9223372036854775808<=x) (h2:x<9223372036854775808):IntKind.i64.wrap x=x:=by
 have key:IntKind.i64.wrap x=if x % 18446744073709551616>=9223372036854775808 then x % 18446744073709551616-18446744073709551616 else x % 18446744073709551616:=by
  unfold IntKind.wrap
  by_cases h:x % 18446744073709551616>=9223372036854775808
  ·rw[if_pos h];exact if_pos (by simpa [IntKind.bits,IntKind.signed] using h)
  ·rw[if_neg h];exact if_neg (by simpa [IntKind.bits,IntKind.signed] using h)
 rw[key]
 split<;>omega
theorem Mk {α:Type} {l:List α} {i:Int} {x:α} (h0:0<=i) (h:l[i.toNat]? = some x):P.idx l i=some x:=by
 have:=(ad3.1 h).1
 unfold P.idx
 rw[if_pos ⟨h0,by omega⟩,h]
theorem bV {α:Type} {l:List α} {i:Nat} (h:i<l.length):P.idx l (i:Int)=some (l[i]):=Mk (by omega) (by simp[h])
theorem JL {α:Type} {l:List α} {i:Nat} (h:i<=l.length):A9 l 0 (i:Int)=some (l.take i):=by
 unfold A9
 rw[if_pos ⟨by omega,by omega,by omega⟩]
 simp
end Go.Proofs.Ytchndpjlijbplaa.P
namespace Go.Proofs.Ytchndpjlijbplaa.Am
open Go.RowKit Go.Deep Go.ChangeShapes Go.WideShapes
set_option linter.unusedSimpArgs false
set_option linter.unusedVariables false
def EB (T:Nat->Option Ty):Nat->Nat->List D->Prop
 | 0,_,_=>False
 | n+1,t,xs =>
  match T t with
  | none=>False
  | some τ=>xs.length=τ.size ∧
   match τ.ds with
   | .int k=>∃i,xs=[.int k i]∧(Lit.int k i).wf=true
   | .bool=>∃b,xs=[.bool b]
   | .str=>∃s:ByteArray,xs=[.str s]∧s.size<=140737488351232
   | .slice e=>∃len ys φ,xs=[.sl false false len ys]∧len*φ.bytes<=140737488351232∧T e=some φ∧ys.length=len*φ.size∧∀i,i<len->EB T n e ((ys.drop (i*φ.size)).take φ.size)
   | .struct fs=>∀f∈fs,∃φ,T f.1=some φ∧EB T n f.1 ((xs.drop f.2).take φ.size)
   | .arr m e=>∃φ,T e=some φ∧∀i,i<m->EB T n e ((xs.drop (i*φ.size)).take φ.size)
   | .map _ _=>False
   | .other=>False
def Ak (T:Nat->Option Ty):Nat->List (Nat×Nat)->Nat->Bool
 | o,[],z=>o==z
 | o,(ft,off)::fs,z=>off==o&&match T ft with|some φ=>Ak T (o+φ.size) fs z|none=>false
def Uw (T:Nat->Option Ty):Nat->Nat->Bool
 | 0,_=>false
 | n+1,t =>
  match T t with
  | none=>false
  | some τ =>
   match τ.ds with
   | .int _ | .bool | .str=>τ.size==1
   | .slice e=>τ.size==1&&Uw T n e&&(match T e with|some φ=>decide (0<φ.size)|none=>false)
   | .struct fs=>Ak T 0 fs τ.size&&fs.all fun f=>Uw T n f.1
   | .arr m e=>Uw T n e&&(match T e with|some φ=>τ.size==m*φ.size|none=>false)
   | .map _ _=>false
   | .other=>false
def mj (w:World) (M:Nat->Prop) (xs:List D) (cs:List Value):Prop:=xs.length=cs.length∧∀(j:Nat) (x:D),xs[j]? = some x->aV x=true∧∃v,cs[j]? = some v∧RP w M x v
theorem mj.append {w:World} {M:Nat->Prop} {xs ys:List D} {cs ds:List Value} (h:mj w M xs cs) (k:mj w M ys ds):mj w M (xs++ys) (cs++ds):=by
 refine⟨by simp[h.1,k.1],fun j x hj =>?_⟩
 rw[aeh]at hj ⊢
 rw[<- h.1]
 split at hj
 ·rename_i hlt;rw[if_pos hlt];exact h.2 j x hj
 ·rename_i hlt;rw[if_neg hlt];exact k.2 _ x hj
theorem CJ {α:Type} (s:Nat):∀(ls:List (List α)),(∀l∈ls,l.length=s)->∀(i:Nat) (l:List α),ls[i]? = some l->(ls.flatten.drop (i*s)).take s=l
 | [],_,i,l,h=>by simp at h
 | a::ls,hl,0,l,h=>by
  simp only[List.getElem?_cons_zero,adJ]at h
  subst h
  have:a.length=s:=hl a (by simp)
  simp[this]
 | a::ls,hl,i+1,l,h=>by
  have ha:a.length=s:=hl a (by simp)
  rw[List.flatten_cons,afh,afi (by rw[ha,aew];omega),aff,ha,aew,afj]
  exact CJ s ls (fun x hx=>hl x (ae1 _ hx)) i l h
theorem LD {α:Type} (s:Nat):∀(ls:List (List α)),(∀l∈ls,l.length=s)->ls.flatten.length=ls.length*s
 | [],_=>by simp
 | a::ls,hl=>by
  rw[List.flatten_cons,aeC,LD s ls (fun x hx=>hl x (ae1 _ hx)),hl a (by simp),ad0,aew]
  omega
section
variable {H:Type} {enc:TypeId×Value->H} {P:Program} {w:World} {base:Nat} {spare:Nat->Bool} {held:Bool} {T:Nat->Option Ty}
theorem gh.bytesOf {P:Program} {t:Nat} {τ:Ty} (h:gh P t τ):P.bytesOf t=τ.bytes:=by
 have:=h.info
 unfold Program.bytesOf
 cases hi:P.info? t with
 | none=>rw[hi]at this;simp at this
 | some i=>rw[hi]at this;simp only[Option.map_some,adJ,Prod.mk.injEq]at this;simp[this.2.1]
def Reach (P:Program) (t:Nat) (d:DataW H):Prop:=∀k∈d.weights P t,k<=140737488351232
theorem zo {e:TypeId} : ∀(l:List (DataW H)) (j:Nat) (d:DataW H),l[j]? = some d->∀k∈d.weights P e,k∈DataW.weightsAll P e l
 | x::l,0,d,h,k,hk=>by
  simp only[List.getElem?_cons_zero,adJ]at h
  subst h
  simp only[DataW.weightsAll,aeI]
  exact .inl hk
 | x::l,j+1,d,h,k,hk=>by
  simp only[DataW.weightsAll,aeI]
  exact .inr (zo l j d (by simpa using h) k hk)
 | [],j,d,h,k,hk=>by simp at h
theorem gh.cells {P:Program} {t:Nat} {τ:Ty} (h:gh P t τ):P.cellsOf t=τ.size:=by
 have:=h.info
 unfold Program.cellsOf
 cases hi:P.info? t with
 | none=>rw[hi]at this;simp at this
 | some i=>rw[hi]at this;simp only[Option.map_some,adJ,Prod.mk.injEq]at this;simp[this.1]
theorem So {T:Nat->Option Ty} {w:World} {M:Nat->Prop} {cs:List Value} : ∀(fs:List (Nat×Nat)) (o z:Nat) (f:Nat×Nat->List D),Ak T o fs z=true->cs.length=z ->
  (∀p∈fs,∃φ,T p.1=some φ∧mj w M (f p) ((cs.drop p.2).take φ.size))->o<=z->∃xs,mj w M xs (cs.drop o)∧∀p∈fs,∃φ,T p.1=some φ∧o<=p.2∧(xs.drop (p.2-o)).take φ.size=f p
 | [],o,z,f,hl,hc,_,_=>by
  simp only[Ak,beq_iff_eq]at hl
  refine⟨[],⟨by rw[adU,hc,hl];simp,fun j x hj=>by simp at hj⟩,fun p hp=>by simp at hp⟩
 | (ft,off)::fs,o,z,f,hl,hc,hp,hoz=>by
  simp only[Ak,aeb,beq_iff_eq]at hl
  obtain⟨rfl,hl⟩:=hl
  obtain⟨φ,hφ,hR⟩:=hp (ft,off) (by simp)
  simp only[hφ]at hl
  have hz:off+φ.size<=z:=by
   have:∀(fs:List (Nat×Nat)) (o:Nat),Ak T o fs z=true->o<=z:=by
    intro fs
    induction fs with
    | nil=>intro o h;simp only[Ak,beq_iff_eq]at h;omega
    | cons p fs ih =>
     intro o h
     obtain⟨a,b⟩:=p
     simp only[Ak,aeb]at h
     have h2:=h.2
     split at h2
     ·have:=ih _ h2;omega
     ·cases h2
   exact this fs _ hl
  obtain⟨xs,hx,hxs⟩:=So fs (off+φ.size) z f hl hc (fun p h=>hp p (ae1 _ h)) hz
  have hfl:(f (ft,off)).length=φ.size:=by
   rw[hR.1,adT,adU,hc];omega
  refine⟨f (ft,off)++xs,?_,fun p h =>?_⟩
  ·have:=hR.append hx
   rw[<- afk,afl]at this
   exact this
  ·rcases adH.1 h with rfl|h
   ·exact⟨φ,hφ,adA _,by simp only[aeE,aeU];rw[aeS (by omega),aeT (by omega)]⟩
   ·obtain⟨ψ,h1,h2,h3⟩:=hxs p h
    refine⟨ψ,h1,by omega,?_⟩
    rw[afh,afi (by omega),aff,hfl]
    have:p.2-off-φ.size=p.2-(off+φ.size):=by omega
    rw[this,h3]
theorem mj.one {w:World} {M:Nat->Prop} {x:D} {v:Value} (hp:aV x=true) (h:RP w M x v):mj w M [x] [v]:=by
 refine⟨rfl,fun j y hj =>?_⟩
 match j,hj with
 | 0,hj=>simp only[List.getElem?_cons_zero,adJ]at hj;subst hj;exact⟨hp,v,rfl,h⟩
 | j+1,hj=>simp at hj
theorem mj.flat {w:World} {M:Nat->Prop} {cs:List Value} {s:Nat} : ∀(ls:List (List D)) (o:Nat),(∀(i:Nat) l,ls[i]? = some l->mj w M l ((cs.drop (o+i*s)).take s))->(∀l∈ls,l.length=s)->mj w M ls.flatten ((cs.drop o).take (ls.length*s))
 | [],o,_,_=>⟨by simp,fun j x hj=>by simp at hj⟩
 | a::ls,o,h,hl=>by
  have h0:=h 0 a rfl
  have h1:=mj.flat ls (o+s) (fun i l hi=>by
   have:=h (i+1) l (by simpa using hi)
   rw[aew]at this
   rw[show o+s+i*s=o+(i*s+s) by omega]
   exact this) (fun l hx=>hl l (ae1 _ hx))
  have:=h0.append h1
  rw[afm,ad9]at this
  rw[List.flatten_cons,ad0,aew,Nat.add_comm (ls.length*s) s,List.take_add,afk]
  exact this
theorem aaf (hT:jK P T) {M:Nat->Prop} (hM:∀b,base<=b->b<w.heap.size->¬M b):∀(n t fuel:Nat) (cs:List Value) (x:DataW H×List MemPlace),Uw T n t=true->DataW.trod enc P w base spare held fuel t cs=some x->Reach P t x.1->∃xs,EB T n t xs∧mj w M xs cs:=by
 intro n
 induction n with
 | zero=>intro t fuel cs x h;cases h
 | succ n ih =>
  intro t fuel cs x hok h hw
  unfold Uw at hok
  unfold EB
  cases hτ:T t with
  | none=>rw[hτ]at hok;cases hok
  | some τ =>
   rw[hτ]at hok
   simp only at hok ⊢
   obtain⟨d,hd,hc⟩:=under hT hτ
   cases hds:τ.ds with
   | int k =>
    rw[hds]at hok hc
    simp only[beq_iff_eq]at hok
    have hd':=xD hc
    subst hd'
    obtain⟨i,rfl,_,hw⟩:=DataW.trod_int hd h
    exact⟨[.int k i],⟨by rw[hok];rfl,i,rfl,hw⟩,.one rfl (.int k i)⟩
   | bool =>
    rw[hds]at hok hc
    simp only[beq_iff_eq]at hok
    have hd':=uX hc
    subst hd'
    obtain⟨b,rfl,_⟩:=DataW.trod_bool hd h
    exact⟨[.bool b],⟨by rw[hok];rfl,b,rfl⟩,.one rfl (.bool b)⟩
   | str =>
    rw[hds]at hok hc
    simp only[beq_iff_eq]at hok
    have hd':=qF hc
    subst hd'
    obtain⟨s,rfl,rfl,hs⟩:=DataW.trod_string hd h
    have hs':s.size<=140737488351232:=by
     have:=hw s.data.toList.length (by simp[DataW.weights])
     simpa using this
    exact⟨[.str s],⟨by rw[hok];rfl,s,rfl,hs'⟩,.one rfl (.str s)⟩
   | map _ _=>rw[hds]at hok;cases hok
   | other=>rw[hds]at hok;cases hok
   | struct fs =>
    rw[hds]at hok hc
    simp only[aeb,adL]at hok
    obtain⟨F,rfl,hF⟩:=im hc
    obtain⟨ys,m,_,rfl,hlen,hyl,hf⟩:=DataW.trod_struct hd h
    have hwy:∀(i:Nat) (f:Field) y,F[i]? = some f->ys[i]? = some y->Reach P f.type y.1:=by
     intro i f y hfi hyi k hk
     refine hw k ?_
     simp only[DataW.weights,hd]
     exact DataW.weights_mem_each (j:=i) (t:=f.type) (d:=y.1) (by rw[adx,aeq,hfi];rfl) (by simp[hyi]) k hk
    rw[(hT t τ hτ).cells]at hlen
    have hone:∀p:Nat×Nat,∃zs,p∈fs->∃φ,T p.1=some φ∧EB T n p.1 zs∧mj w M zs ((cs.drop p.2).take φ.size):=by
     intro p
     by_cases hp:p∈fs
     ·have hokp:=hok.2 p hp
      rw[<- hF]at hp
      obtain⟨f,hfm,rfl⟩:=adz.1 hp
      obtain⟨i,hi⟩:=List.mem_iff_getElem?.1 hfm
      have h1:=hf i f (by simpa using hi)
      simp only at hokp ⊢
      cases hφ:T f.type with
      | none=>cases n with
       | zero=>cases hokp
       | succ n=>simp only[Uw,hφ]at hokp;cases hokp
      | some φ =>
       rw[(hT _ φ hφ).cells]at h1
       have hi':i<ys.length:=by
        have:=(ad3.1 hi).1
        simp only[Array.length_toList]at this
        omega
       rw[adN hi']at h1
       obtain⟨zs,hz1,hz2⟩:=ih _ _ _ _ hokp h1 (hwy i f _ (by simpa using hi) (adN hi'))
       exact⟨zs,fun _=>⟨φ,rfl,hz1,hz2⟩⟩
     ·exact⟨[],fun h=>(hp h).elim⟩
    obtain⟨f,hf2⟩:=Classical.axiomOfChoice hone
    obtain⟨xs,hx,hparts⟩:=So fs 0 τ.size f hok.1 hlen (fun p hp=>by obtain⟨φ,a,_,b⟩:=hf2 p hp;exact⟨φ,a,b⟩) (adB _)
    rw[aeU]at hx
    refine⟨xs,⟨by rw[hx.1,hlen],fun p hp =>?_⟩,hx⟩
    obtain⟨φ,h1,_,h3⟩:=hparts p hp
    obtain⟨ψ,g1,g2,_⟩:=hf2 p hp
    rw[h1]at g1
    cases g1
    rw[Nat.sub_zero]at h3
    exact⟨φ,h1,by rw[h3];exact g2⟩
   | arr m e =>
    rw[hds]at hok hc
    simp only[aeb]at hok
    have hd':=xC hc
    subst hd'
    obtain⟨ys,k,_,rfl,hlen,hyl,hf⟩:=DataW.trod_array hd h
    have hwy:∀(i:Nat) y,ys[i]? = some y->Reach P e y.1:=by
     intro i y hyi k hk
     refine hw k ?_
     simp only[DataW.weights,hd]
     exact zo _ i y.1 (by simp[hyi]) k hk
    rw[(hT t τ hτ).cells]at hlen
    obtain⟨hok1,hok2⟩:=hok
    split at hok2
    ·rename_i φ hφ
     simp only[beq_iff_eq]at hok2
     have hone:∀i:Nat,∃zs,i<m->EB T n e zs∧mj w M zs ((cs.drop (i*φ.size)).take φ.size):=by
      intro i
      by_cases hi:i<m
      ·have h1:=hf i hi
       rw[(hT _ φ hφ).cells,adN (by omega)]at h1
       obtain⟨zs,hz1,hz2⟩:=ih _ _ _ _ hok1 h1 (hwy i _ (adN (by omega)))
       exact⟨zs,fun _=>⟨hz1,hz2⟩⟩
      ·exact⟨[],fun h=>(hi h).elim⟩
     obtain⟨f,hf2⟩:=Classical.axiomOfChoice hone
     have hls:∀l∈(List.range m).map f,l.length=φ.size:=by
      intro l hl
      obtain⟨i,hi,rfl⟩:=adz.1 hl
      have hi:=afb.1 hi
      rw[(hf2 i hi).2.1,adT,adU,hlen,hok2]
      have:(i+1)*φ.size<=m*φ.size:=aem _ hi
      rw[aew]at this
      omega
     have hget:∀(i:Nat) l,((List.range m).map f)[i]? = some l->i<m∧l=f i:=by
      intro i l hl
      rw[adx,ady]at hl
      obtain⟨j,hj,rfl⟩:=hl
      obtain⟨hj1,hj2⟩:=ad3.1 hj
      simp only[ad5]at hj1
      simp only[ad6]at hj2
      exact⟨hj1,by rw[hj2]⟩
     have hall:mj w M ((List.range m).map f).flatten ((cs.drop 0).take (((List.range m).map f).length*φ.size)):=by
      refine mj.flat _ 0 (fun i l hl =>?_) hls
      obtain⟨hi,rfl⟩:=hget i l hl
      rw[aen]
      exact (hf2 i hi).2
     rw[ad4,ad5,aeU,aeT (by omega)]at hall
     refine⟨_,⟨by rw[hall.1,hlen],φ,hφ,fun i hi =>?_⟩,hall⟩
     have hi':((List.range m).map f)[i]? = some (f i):=by simp[hi]
     rw[CJ φ.size _ hls i _ hi']
     exact (hf2 i hi).1
    ·cases hok2
   | slice e =>
    rw[hds]at hok hc
    simp only[aeb,beq_iff_eq]at hok
    have hd':=fb hc
    subst hd'
    obtain⟨⟨hone,hoke⟩,hpos⟩:=hok
    split at hpos
    ·rename_i φ hφ
     simp only[decide_eq_true_eq]at hpos
     rcases open_slice hd h with⟨rfl,_⟩|⟨a,len,cap,m,k,D',Pl,rfl,hb,hl,hm,hmm,rfl,hi⟩
     ·refine⟨[.sl false false 0 []],⟨by rw[hone];rfl,0,[],φ,rfl,by omega,hφ,by simp,fun i hi=>by omega⟩,.one rfl ?_⟩
      exact .sl none 0 false false 0 [] (fun _=>undef) (adA _) (adB _) (fun h=>by cases h) (fun _=>⟨rfl,rfl⟩) (fun h=>by cases h) (fun h=>(h rfl).elim) (fun j x hj=>by simp at hj) (fun x hx=>by simp at hx)
     ·have hlm:len<=m:=by rw[hmm];split<;>omega
      have hwl:len*φ.bytes<=140737488351232:=by
       have h1:=hw ((((List.range len).map D').length+((List.range (m-len)).map fun j=>D' (len+j)).length)*P.bytesOf e) (by simp[DataW.weights,hd])
       rw[(hT _ φ hφ).bytesOf]at h1
       simp only[ad4,ad5]at h1
       exact adC (aem _ (by omega)) h1
      have hwy:∀i,i<len->Reach P e (D' i):=by
       intro i hi' k hk
       refine hw k ?_
       simp only[DataW.weights,hd,adH,aeI]
       exact .inr (.inl (zo _ i (D' i) (by simp[hi']) k hk))
      have hone':∀i:Nat,∃zs,i<len->EB T n e zs∧zs.length=φ.size∧∀(j:Nat) z,zs[j]? = some z->aV z=true∧∃v,w.cell? (a.add (i*φ.size+j))=some v∧RP w M z v:=by
       intro i
       by_cases hil:i<len
       ·obtain⟨cs',hc1,hc2⟩:=hi i (by omega)
        rw[(hT _ φ hφ).cells]at hc1
        obtain⟨_,g1,g2⟩:=World.cells?_some hc1
        obtain⟨zs,hz1,hz2⟩:=ih _ _ _ _ hoke hc2 (hwy i hil)
        refine⟨zs,fun _=>⟨hz1,by rw[hz2.1,g1],fun j z hj =>?_⟩⟩
        obtain⟨p1,v,p2,p3⟩:=hz2.2 j z hj
        refine⟨p1,v,?_,p3⟩
        have hj':j<φ.size:=by rw[<- g1];exact (ad3.1 p2).1
        rw[<- Go.Deep.add_add,g2 j hj',p2]
       ·exact⟨[],fun h=>(hil h).elim⟩
      obtain⟨f,hf2⟩:=Classical.axiomOfChoice hone'
      have hls:∀l∈(List.range len).map f,l.length=φ.size:=by
       intro l hl
       obtain⟨i,hi,rfl⟩:=adz.1 hl
       exact (hf2 i (afb.1 hi)).2.1
      have hfl:((List.range len).map f).flatten.length=len*φ.size:=by rw[LD φ.size _ hls];simp
      have hseg:∀i,i<len->(((List.range len).map f).flatten.drop (i*φ.size)).take φ.size=f i:=fun i hi=>CJ φ.size _ hls i (f i) (by simp[hi])
      have hat:∀(p:Nat) z,((List.range len).map f).flatten[p]? = some z->aV z=true∧∃v,w.cell? (a.add p)=some v∧RP w M z v:=by
       intro p z hp
       have hpl:=(ad3.1 hp).1
       rw[hfl]at hpl
       have hq:p / φ.size<len:=Nat.div_lt_of_lt_mul (by rwa [aex])
       have hr:p % φ.size<φ.size:=aet _ hpos
       have he:p / φ.size*φ.size+p % φ.size=p:=Nat.div_add_mod' p φ.size
       have hz:(f (p / φ.size))[p % φ.size]? = some z:=by
        rw[<- hseg _ hq,adQ,if_pos hr,adR,he]
        exact hp
       have:=(hf2 _ hq).2.2 _ z hz
       rw[he]at this
       exact this
      refine⟨[.sl false false len ((List.range len).map f).flatten],⟨by rw[hone];rfl,len,_,φ,rfl,hwl,hφ,hfl,fun i hi=>by rw[hseg i hi];exact (hf2 i hi).1⟩,.one rfl ?_⟩
      refine .sl (some a) cap false false len _ (fun j=>(w.cell? (a.add j)).getD undef) hl hm (fun h=>by cases h) (fun h=>by cases h) (fun h=>by cases h) (fun hne =>?_) (fun j z hj =>?_) (fun z hz =>?_)
      ·have h0:0<((List.range len).map f).flatten.length:=afn.2 hne
       obtain⟨_,v,hv,_⟩:=hat 0 _ (adN h0)
       obtain⟨b,o,sp⟩:=a
       have hsp:sp=none:=by
        unfold World.cell? at hv
        split at hv
        ·split at hv
         ·cases hv
         ·rename_i h;simpa [Addr.add] using h
        ·cases hv
       subst hsp
       have hbs:b<w.heap.size:=by
        unfold World.cell? at hv
        split at hv
        ·rename_i hh;exact (adE.1 hh).1
        ·cases hv
       refine⟨b,o,rfl,hbs,hM b hb hbs,fun j hj =>?_⟩
       obtain⟨_,v,hv,_⟩:=hat j _ (adN hj)
       have ha:Addr.add ⟨b,o,none⟩ j=⟨b,o+j,none⟩:=by
        unfold Addr.add
        split
        ·rename_i h0;rw[h0];rfl
        ·rfl
       have hv':w.cell? ⟨b,o+j,none⟩=some v:=by rw[<- ha];exact hv
       rw[hv']
       simp only[hv,Option.getD_some]
      ·obtain⟨_,v,hv,hr⟩:=hat j z hj
       rw[hv]
       exact hr
      ·obtain⟨j,hj⟩:=List.mem_iff_getElem?.1 hz
       exact (hat j z hj).1
    ·cases hpos
def tu (T:Nat->Option Ty) (n t:Nat) (d:D):Prop :=
 match T t with
 | some τ=>if τ.ds.pc then ∃xs,d=.agg xs∧EB T n t xs else EB T n t [d]
 | none=>False
theorem mj.agg {w:World} {M:Nat->Prop} {xs:List D} {cs:Array Value} (h:mj w M xs cs.toList):RP w M (.agg xs) (.agg cs):=by
 have:=RP.agg (w:=w) (M:=M) xs cs.toList h.1.symm (fun j x hj=>by
  obtain⟨_,v,h1,h2⟩:=h.2 j x hj
  simp only[List.getD,h1,Option.getD_some]
  exact h2) (fun x hx=>by
  obtain⟨j,hj⟩:=List.mem_iff_getElem?.1 hx
  exact (h.2 j x hj).1)
 simpa using this
theorem mj.single {w:World} {M:Nat->Prop} {xs:List D} {v:Value} (h:mj w M xs [v]):∃x,xs=[x]∧RP w M x v:=by
 match xs,h with
 | [],h=>have:=h.1;simp at this
 | [x],h=>obtain⟨_,u,h1,h2⟩:=h.2 0 x rfl;simp only[List.getElem?_cons_zero,adJ]at h1;subst h1;exact⟨x,rfl,h2⟩
 | x::y::xs,h=>have:=h.1;simp at this
theorem Yg (hT:jK P T) {M:Nat->Prop} (hM:∀b,base<=b->b<w.heap.size->¬M b) {n t b0:Nat} {v:Value} {d:DataW H} {ps:List MemPlace} (hok:Uw T n t=true) (hv:Value.okWide P w .any b0 t v) (h:DataW.Trod enc P w base spare held t v d ps) (hw:Reach P t d) :
  ∃x,tu T n t x∧RP w M x v:=by
 obtain⟨fuel,h⟩:=h
 obtain⟨xs,h1,h2⟩:=aaf hT hM n t fuel _ _ hok h hw
 unfold tu
 cases n with
 | zero=>cases hok
 | succ n =>
 cases hτ:T t with
 | none=>simp only[Uw,hτ]at hok;cases hok
 | some τ =>
  simp only
  obtain⟨d',hd,hc⟩:=under hT hτ
  cases hds:τ.ds with
  | int k =>
   rw[hds]at hc
   have hd':=xD hc
   subst hd'
   obtain⟨i,rfl⟩:=okWide_int hd hv
   obtain⟨x,rfl,hx⟩:=mj.single (v := .int k i) h2
   exact⟨x,by simpa [Ds.pc] using h1,hx⟩
  | bool =>
   rw[hds]at hc
   have hd':=uX hc
   subst hd'
   obtain⟨i,rfl⟩:=okWide_bool hd hv
   obtain⟨x,rfl,hx⟩:=mj.single (v := .bool i) h2
   exact⟨x,by simpa [Ds.pc] using h1,hx⟩
  | str =>
   rw[hds]at hc
   have hd':=qF hc
   subst hd'
   obtain⟨i,rfl⟩:=okWide_string hd hv
   obtain⟨x,rfl,hx⟩:=mj.single (v := .string i) h2
   exact⟨x,by simpa [Ds.pc] using h1,hx⟩
  | slice e =>
   rw[hds]at hc
   have hd':=fb hc
   subst hd'
   obtain⟨a,len,cap,rfl⟩:=okWide_slice hd hv
   obtain⟨x,rfl,hx⟩:=mj.single (v := .slice a len cap) h2
   exact⟨x,by simpa [Ds.pc] using h1,hx⟩
  | struct fs =>
   rw[hds]at hc
   obtain⟨F,rfl,_⟩:=im hc
   obtain⟨cs,rfl,_⟩:=okWide_struct hd hv
   exact⟨.agg xs,by simpa [Ds.pc] using h1,mj.agg h2⟩
  | arr m e =>
   rw[hds]at hc
   have hd':=xC hc
   subst hd'
   have:∃cs,v=.agg cs:=by
    unfold Value.okWide at hv
    rw[hd]at hv
    obtain⟨cs,h,_⟩:=hv
    exact⟨cs,h⟩
   obtain⟨cs,rfl⟩:=this
   exact⟨.agg xs,by simpa [Ds.pc] using h1,mj.agg h2⟩
  | map _ _=>simp only[Uw,hτ,hds]at hok;cases hok
  | other=>simp only[Uw,hτ,hds]at hok;cases hok
theorem FE (hT:jK P T) {M:Nat->Prop} (hM:∀b,base<=b->b<w.heap.size->¬M b) {n b0:Nat} : ∀(ts:List TypeId) (vs:List Value) (ds:List (DataW H)) (ps:List MemPlace),DataW.TrodAll enc P w base spare held ts vs ds ps ->
  (∀(j:Nat) t v,ts[j]? = some t->vs[j]? = some v->Value.okWide P w .any b0 t v)->(∀t∈ts,Uw T n t=true)->(∀k∈DataW.weightsEach P ts ds,k<=140737488351232) ->
  ∃ar:List D,ar.length=vs.length∧(∀(j:Nat) x,ar[j]? = some x->∃v,vs[j]? = some v∧RP w M x v)∧ar.length=ts.length∧∀(j:Nat) t,ts[j]? = some t->∃x,ar[j]? = some x∧tu T n t x
 | [],[],[],ps,_,_,_,_=>⟨[],rfl,fun j x hj=>by simp at hj,rfl,fun j t hj=>by simp at hj⟩
 | t::ts,v::vs,d::ds,ps,h,hv,hok,hw=>by
  obtain⟨p,q,h1,h2,_⟩:=h
  obtain⟨x,hx1,hx2⟩:=Yg hT hM (hok t (by simp)) (hv 0 t v rfl rfl) h1 (fun k hk=>hw k (by simp only[DataW.weightsEach,aeI];exact .inl hk))
  obtain⟨ar,g1,g2,g3,g4⟩:=FE hT hM ts vs ds q h2 (fun j t' v' a b=>hv (j+1) t' v' (by simpa using a) (by simpa using b)) (fun t' ht=>hok t' (ae1 _ ht)) (fun k hk=>hw k (by simp only[DataW.weightsEach,aeI];exact .inr hk))
  refine⟨x::ar,by simp[g1],fun j y hj =>?_,by simp[g3],fun j t' hj =>?_⟩
  ·cases j with
   | zero=>simp only[List.getElem?_cons_zero,adJ]at hj;subst hj;exact⟨v,rfl,hx2⟩
   | succ j=>simpa using g2 j y (by simpa using hj)
  ·cases j with
   | zero=>simp only[List.getElem?_cons_zero,adJ]at hj;subst hj;exact⟨x,rfl,hx1⟩
   | succ j=>simpa using g4 j t' (by simpa using hj)
 | [],[],_::_,_,h,_,_,_=>h.elim
 | [],_::_,_,_,h,_,_,_=>h.elim
 | _::_,[],_,_,h,_,_,_=>h.elim
 | _::_,_::_,[],_,h,_,_,_=>h.elim
end
end Go.Proofs.Ytchndpjlijbplaa.Am
namespace Go.Proofs.Ytchndpjlijbplaa.Am
open Go.RowKit Go.Deep Go.ChangeShapes Go.WideShapes Go.ChangeAt
set_option linter.unusedSimpArgs false
set_option linter.unusedVariables false
section
variable {H:Type} {enc:TypeId×Value->H} {P:Program}
theorem Fe {f:Func} {s:ChangeSpec} {apart fresh handsOn again:Bool} {W W':World} {args:Array Value} {v:Value} {ds gs:List (DataW H)} {before pa pv:List MemPlace}
  (hW:DataW.Whole enc P f.params.toList s.vars apart W args.toList ds gs before)
  (hres:∀(b:Nat) (sp:Nat->Bool) (hd:Bool),DataW.TrodAll enc P W' b sp hd f.resultTypes.toList (v.resultList f.resultTypes.size) (s.fn H (ds++gs)).results [])
  (hargs:∀sp:Nat->Bool,(∀p∈before,sp p.block=true)->DataW.TrodAll enc P W' 0 sp true f.params.toList args.toList (s.fn H (ds++gs)).args pa)
  (hvars:∀sp:Nat->Bool,(∀p∈before,sp p.block=true)->DataW.TrodVars enc P W' sp s.vars (s.fn H (ds++gs)).vars pv)
  (hps:before=pa++pv) (hb:Below W.heap.size W W')
  (hok:∀(j:Nat) (t:TypeId) (r:Value),f.resultTypes[j]? = some t->(v.resultList f.resultTypes.size)[j]? = some r->Value.okWide P W' .any 0 t r) :
  s.post enc P f apart fresh handsOn again W args v W':=by
 have hlt:∀p∈before,p.block<W.heap.size:=fun p hp=>hW.lt p hp
 have hold:∀p∈before,(fun b=>decide (b<W.heap.size)) p.block=true:=fun p hp=>by simpa using hlt p hp
 refine⟨ds,gs,before,[],pa,pv,hW,hres _ _ _,hargs _ hold,hvars _ hold,World.keptBut_mono (fun p hp=>⟨hp,?_⟩) (hb.frame (·∈before)),fun _ =>?_⟩
 ·rw[hps,aeI]at hp
  exact Or.inr hp
 ·obtain⟨_,_,_,_,_,hz,hn⟩:=hW
  refine⟨hok,_,_,([]++pa)++pv,⟨[]++pa,pv,trodAll_append (hargs _ (fun _ _=>rfl)) (hres _ _ _),hvars _ (fun _ _=>rfl),rfl,?_,?_⟩,?_⟩
  ·intro b off hp
   have hin:MemPlace.cell b off∈before:=by rw[hps];simpa using hp
   rw[hb.frozen (hlt _ hin)]
   exact hz b off hin
  ·intro ha
   have:=hn ha
   rw[hps]at this
   simpa using this
  ·intro p hp _
   rw[hps]
   simpa using hp
theorem wL (hl:laidOutB P=true) {W W':World} {sp':Nat->Bool} : ∀ {ts:List TypeId} {vs:List Value} {ds:List (DataW H)} {ps:List MemPlace},(∀t∈ts,P.readableRec t=true∧t<P.types.size)->DataW.TrodAll enc P W 0 (fun _=>true) true ts vs ds ps ->
  (∀p∈ps,W.sameAt W' p)->(∀p∈ps,sp' p.block=true)->DataW.TrodAll enc P W' 0 sp' true ts vs ds ps
 | [],[],[],_,_,h,_,_=>h
 | t::ts,v::vs,d::ds,_,hr,⟨p,q,h1,h2,e⟩,hs,hp=>by
  subst e
  have ht:=hr t (by simp)
  exact⟨p,q,WideElems.Trod_stays hl ht.1 ht.2 h1 (fun x hx=>hs x (adO _ hx)) (fun x hx=>hp x (adO _ hx)),
   wL hl (fun t ht=>hr t (ae1 _ ht)) h2 (fun x hx=>hs x (adP _ hx)) (fun x hx=>hp x (adP _ hx)),rfl⟩
end
theorem W3 {H:Type} {enc:TypeId×Value->H} {C:Checked} {T:Nat->Option Ty} {f:FuncId} {fn:Func} {s:ChangeSpec} {apart fresh handsOn again:Bool} {tb n:Nat} (hT:jK C.prog T)
  (hl:laidOutB C.prog=true) (hr:(fn.params.toList.all fun t=>C.prog.readableRec t&&decide (t<C.prog.types.size)&&Uw T n t)=true)
  (hres:fn.resultTypes = #[tb]) (htb:C.prog.underlying tb=some .bool) (hv:s.vars=[])
  (hs:∀ds:List (DataW H),ds.length=fn.params.toList.length->(s.fn H ds).results=[.lit (.bool true)]∧(s.fn H ds).args=ds∧(s.fn H ds).vars=[])
  (law:∀ar:List D,ar.length=fn.params.toList.length->(∀(j:Nat) t,fn.params.toList[j]? = some t->∃x,ar[j]? = some x∧tu T n t x)->OO C.prog f ar (.bool true))
  {W:World} {base:Nat} {args:Array Value} {ds gs:List (DataW H)} {before:List MemPlace}
  (hval:∀(j:Nat) t v,fn.params[j]? = some t->args[j]? = some v->Value.okWide C.prog W .any base t v) (hW:DataW.Whole enc C.prog fn.params.toList s.vars apart W args.toList ds gs before)
  (hsz:(DataW.weightsEach C.prog (fn.params.toList++s.plain.varTypes C.prog) (ds++gs)).all (·<=reachBytes)=true) (hTab:Tx W (fun _=>False)) :
  Calls C.prog f args W fun e W'=>∃v,e=.returned v∧s.post enc C.prog fn apart fresh handsOn again W args v W':=by
 have hW':=hW
 obtain⟨p,q,hA,hV,rfl,hfz,hnd⟩:=hW
 rw[hv]at hV
 obtain⟨rfl,rfl⟩:=trodVars_none hV
 simp only[adL,aeb,decide_eq_true_eq]at hr
 obtain⟨ar,h1,h2,h3,h4⟩:=FE (P:=C.prog) hT (M:=fun _=>False) (fun b _ _ h=>h) (n:=n) (b0:=base) fn.params.toList args.toList ds p hA
  (fun j t v a b=>hval j t v (by simpa using a) (by simpa using b)) (fun t ht=>(hr t ht).2) (fun k hk=>by
   rw[adL]at hsz
   have hv0:s.plain.varTypes C.prog=[]:=by unfold ChangeSpec.plain;simp only[hv];rfl
   rw[hv0,afo,afo]at hsz
   have h:=hsz k hk
   rw[decide_eq_true_eq]at h
   exact h)
 refine (law ar h3 h4 W (fun _=>False) args (fun b h=>h.elim) ⟨by simpa using h1.symm,fun j x hj =>?_,hTab⟩).mono fun e W' hG =>?_
 ·obtain⟨v,g1,g2⟩:=h2 j x hj
  have g1':args[j]? = some v:=by simpa using g1
  rw[adF,g1']
  exact g2
 ·obtain⟨v,rfl,hb,hv1⟩:=hG
  have hv2:RP W' (fun _=>False) (.bool true) v:=hv1
  cases hv2
  have hlen:ds.length=fn.params.toList.length:=by
   have:∀ {ts:List TypeId} {vs:List Value} {ds:List (DataW H)} {ps:List MemPlace},DataW.TrodAll enc C.prog W 0 (fun _=>true) true ts vs ds ps->ds.length=ts.length:=by
    intro ts
    induction ts with
    | nil=>intro vs ds ps h;cases vs<;>cases ds<;>first|rfl|exact h.elim
    | cons t ts ih =>
     intro vs ds ps h
     cases vs with
     | nil=>exact h.elim
     | cons v vs=>cases ds with
      | nil=>exact h.elim
      | cons d ds=>obtain⟨_,_,_,h2,_⟩:=h;simp[ih h2]
   exact this hA
  obtain⟨e1,e2,e3⟩:=hs ds hlen
  refine⟨_,rfl,Fe (pa:=p) (pv:=[]) hW' ?_ ?_ ?_ (by simp) hb ?_⟩
  ·intro b sp hd
   rw[afo,e1,hres]
   exact trodAll_mk1 ⟨1,by simp[DataW.trod,htb,Value.cells]⟩
  ·intro sp hsp
   rw[afo,e2]
   refine wL hl (fun t ht=>(hr t ht).1) hA (fun x hx=>hb.same (hW'.lt x (by simpa using hx))) (fun x hx=>hsp x (by simpa using hx))
  ·intro sp _
   rw[afo,e3,hv]
   rfl
  ·exact ok_one hres rfl (by simp[Value.okWide,htb,Cell.okWide,Cell.ok])
theorem Qt {H:Type} {enc:TypeId×Value->H} {C:Checked} {os:Os} {T:Nat->Option Ty} {f:FuncId} {fn:Func} {s:ChangeSpec} {conds:List PathCond} {apart fresh handsOn again:Bool} {tb n:Nat}
  (hT:jK C.prog T) (own:ownKnob C.prog.godebug=none) (started:os.Started) (noInit:C.prog.inits.idxOf? f=none) (hfn:C.prog.funcs[f]? = some fn)
  (witness:∃(w:World) (tape:Tape) (i:Input),w.os=os∧(w.forCall tape i).Shaped C.prog∧i.vars=[]∧Input.okWide C.prog (w.forCall tape i) .any w.heap.size f i ∧
   s.pre6 enc C.prog fn conds apart (w.forCall tape i).memory i.args∧({} : Assume).holds C.prog (lone (Frame.enter C.prog f i.args .normal) [] (w.forCall tape i)))
  (hl:laidOutB C.prog=true) (hr:(fn.params.toList.all fun t=>C.prog.readableRec t&&decide (t<C.prog.types.size)&&Uw T n t)=true)
  (hres:fn.resultTypes = #[tb]) (htb:C.prog.underlying tb=some .bool) (hv:s.vars=[])
  (hs:∀ds:List (DataW H),ds.length=fn.params.toList.length->(s.fn H ds).results=[.lit (.bool true)]∧(s.fn H ds).args=ds∧(s.fn H ds).vars=[])
  (law:∀ar:List D,ar.length=fn.params.toList.length->(∀(j:Nat) t,fn.params.toList[j]? = some t->∃x,ar[j]? = some x∧tu T n t x)->OO C.prog f ar (.bool true)) (hno:Xp=none:=by rfl) :
  ReturnsInHanded {} C os f .any (s.pre6 enc C.prog fn conds apart) (s.post enc C.prog fn apart fresh handsOn again):=by
 refine returnsInHanded_of_change_sized own started noInit hfn witness ?_
 intro W base args ds gs before hval hW _ hsz _
 exact W3 hT hl hr hres htb hv hs law hval hW hsz (fun b hb=>by rw[hno]at hb;cases hb)
end Go.Proofs.Ytchndpjlijbplaa.Am
namespace Go.Proofs.Ytchndpjlijbplaa.Am
open Go.RowKit
set_option linter.unusedSimpArgs false
set_option linter.unusedVariables false
theorem aba {T:Nat->Option Ty} {n t:Nat} {ar:List D} (h:ar.length=[t].length) (hs:∀(j:Nat) u,[t][j]? = some u->∃x,ar[j]? = some x∧tu T n u x):∃a,ar=[a]∧tu T n t a:=by
 match ar,h with
 | [a],_=>obtain⟨x,h1,h2⟩:=hs 0 t rfl;cases h1;exact⟨a,rfl,h2⟩
theorem abb {T:Nat->Option Ty} {n t:Nat} {ts:List Nat} {ar:List D} (h:ar.length=(t::ts).length) (hs:∀(j:Nat) u,(t::ts)[j]? = some u->∃x,ar[j]? = some x∧tu T n u x) :
  ∃a adv,ar=a::adv∧tu T n t a∧adv.length=ts.length∧∀(j:Nat) u,ts[j]? = some u->∃x,adv[j]? = some x∧tu T n u x:=by
 match ar,h with
 | a::adv,h =>
  obtain⟨x,h1,h2⟩:=hs 0 t rfl
  cases h1
  exact⟨a,adv,rfl,h2,by simpa using h,fun j u hu=>by simpa using hs (j+1) u (by simpa using hu)⟩
section
variable {T:Nat->Option Ty} {n t:Nat} {τ:Ty} {d:D}
theorem O3 {fs:List (Nat×Nat)} (h:tu T n t d) (hτ:T t=some τ) (hd:τ.ds=.struct fs):∃xs,d=.agg xs∧EB T n t xs:=by
 simp only[tu,hτ,hd,Ds.pc,if_true]at h
 exact h
theorem TC {e:Nat} (h:tu T n t d) (hτ:T t=some τ) (hd:τ.ds=.slice e):EB T n t [d]:=by
 simp only[tu,hτ,hd,Ds.pc,aea,if_false]at h
 exact h
theorem Y0 {k:IntKind} {xs:List D} (h:EB T (n+1) t xs) (hτ:T t=some τ) (hd:τ.ds=.int k):∃i,xs=[.int k i]∧(Lit.int k i).wf=true:=by
 simp only[EB,hτ,hd]at h
 exact h.2
theorem UJ {e:Nat} {φ:Ty} {xs:List D} (h:EB T (n+1) t xs) (hτ:T t=some τ) (hd:τ.ds=.slice e) (hφ:T e=some φ) :
  ∃len ys,xs=[.sl false false len ys]∧len*φ.bytes<=140737488351232∧ys.length=len*φ.size∧∀i,i<len->EB T n e ((ys.drop (i*φ.size)).take φ.size):=by
 simp only[EB,hτ,hd]at h
 obtain⟨_,len,ys,ψ,h1,h3,h4,h5,h6⟩:=h
 rw[hφ]at h4
 cases h4
 exact⟨len,ys,h1,h3,h5,h6⟩
theorem QS {fs:List (Nat×Nat)} {xs:List D} (h:EB T (n+1) t xs) (hτ:T t=some τ) (hd:τ.ds=.struct fs):xs.length=τ.size∧∀f∈fs,∃φ,T f.1=some φ∧EB T n f.1 ((xs.drop f.2).take φ.size):=by
 simp only[EB,hτ,hd]at h
 exact h
end
end Go.Proofs.Ytchndpjlijbplaa.Am
namespace Go.Proofs.Ytchndpjlijbplaa.Am
open Go.RowKit Go.Proofs.Ytchndpjlijbplaa.P
set_option linter.unusedSimpArgs false
set_option linter.unusedVariables false
def OL {α:Type} (T:Nat->Option Ty) (n t:Nat) (E:iC α) (ok:α->Prop):Prop:=(∃φ,T t=some φ∧φ.size=E.size)∧∀xs,EB T n t xs->∃x,xs=E.cells x∧ok x
section
variable {T:Nat->Option Ty} {n t:Nat} {τ:Ty}
theorem opI {k:IntKind} (hτ:T t=some τ) (hd:τ.ds=.int k) (hs:τ.size=1):OL T (n+1) t (eI k) (fun i=>(Lit.int k i).wf=true):=⟨⟨τ,hτ,hs⟩,fun _ h=>Y0 h hτ hd⟩
theorem ZY {α:Type} (E:iC α) (ok:α->Prop):∀(len:Nat) (ys:List D),ys.length=len*E.size->(∀i,i<len->∃x,(ys.drop (i*E.size)).take E.size=E.cells x∧ok x)->∃l:List α,l.length=len∧ys=ae E l∧∀x∈l,ok x
 | 0,ys,hl,_=>⟨[],rfl,by simpa [ae] using hl,fun x hx=>by simp at hx⟩
 | len+1,ys,hl,h=>by
  obtain⟨x,hx,hok⟩:=h 0 (by omega)
  obtain⟨l,h1,h2,h3⟩:=ZY E ok len (ys.drop E.size) (by rw[adU,hl,aew];omega) (fun i hi=>by
   obtain⟨y,hy,hy2⟩:=h (i+1) (by omega)
   refine⟨y,?_,hy2⟩
   rw[afk]
   rw[aew,Nat.add_comm]at hy
   exact hy)
  rw[afm,aeU]at hx
  refine⟨x::l,by simp[h1],?_,fun y hy =>?_⟩
  ·rw[aL,<- h2,<- hx,afl]
  ·rcases adH.1 hy with rfl|hy
   ·exact hok
   ·exact h3 y hy
theorem aaF {α:Type} {E:iC α} {ok:α->Prop} {e:Nat} (hτ:T t=some τ) (hd:τ.ds=.slice e) (hs:τ.size=1) {B:Nat} (hB:(T e).map (·.bytes)=some B) (he:OL T n e E ok):OL T (n+1) t (OM E) (fun l=>l.length*B<=140737488351232∧∀x∈l,ok x):=by
 obtain⟨⟨φ,hφ,hz⟩,hx⟩:=he
 have hb:φ.bytes=B:=by rw[hφ]at hB;simpa using hB
 refine⟨⟨τ,hτ,hs⟩,fun xs h =>?_⟩
 obtain⟨len,ys,h1,h2,h3,h4⟩:=UJ h hτ hd hφ
 rw[hz]at h3 h4
 rw[hb]at h2
 obtain⟨l,k1,k2,k3⟩:=ZY E ok len ys h3 fun i hi=>hx _ (h4 i hi)
 subst k1 k2
 exact⟨l,h1,h2,k3⟩
def OpF {α:Type} (T:Nat->Option Ty) (n:Nat) (fs:List (Nat×Nat)) (o:Nat) (E:iC α) (ok:α->Prop):Prop :=
 ∀xs:List D,xs.length=o+E.size->(∀f∈fs,∃φ,T f.1=some φ∧EB T n f.1 ((xs.drop f.2).take φ.size))->∃x,xs.drop o=E.cells x∧ok x
theorem YO {α:Type} {E:iC α} {ok:α->Prop} {ft o:Nat} (h:OL T n ft E ok):OpF T n [(ft,o)] o E ok:=by
 obtain⟨⟨φ,hφ,hz⟩,hx⟩:=h
 intro xs hl hf
 obtain⟨ψ,h1,h2⟩:=hf (ft,o) (by simp)
 cases hφ.symm.trans h1
 rw[aeT (by rw[adU];omega)]at h2
 exact hx _ h2
theorem WU {α β:Type} {E:iC α} {ok:α->Prop} {E':iC β} {ok':β->Prop} {ft o o':Nat} {fs:List (Nat×Nat)} (h:OL T n ft E ok) (ho:o'=o+E.size) (h':OpF T n fs o' E' ok'):OpF T n ((ft,o)::fs) o (xM E E') (fun x=>ok x.1∧ok' x.2):=by
 subst ho
 obtain⟨⟨φ,hφ,hz⟩,hx⟩:=h
 intro xs hl hf
 obtain⟨ψ,h1,h2⟩:=hf (ft,o) (by simp)
 cases hφ.symm.trans h1
 obtain⟨x,hx1,hx2⟩:=hx _ h2
 obtain⟨y,hy1,hy2⟩:=h' xs (by rw[hl];show o+(E.size+E'.size)=_;omega) fun f hf'=>hf f (ae1 _ hf')
 refine⟨(x,y),?_,hx2,hy2⟩
 show xs.drop o=E.cells x++E'.cells y
 rw[<- hx1,<- hy1,<- hz,<- afk,afl]
theorem opS {α β:Type} {E:iC β} {ok:β->Prop} {f:α->β} {hf:∀x y,f x=f y->x=y} {g:β->α} {fs:List (Nat×Nat)} (hτ:T t=some τ) (hd:τ.ds=.struct fs) (hs:τ.size=E.size) (hg:∀y,f (g y)=y) (h:OpF T n fs 0 E ok):OL T (n+1) t (Ll E f hf) (fun x=>ok (f x)):=by
 refine⟨⟨τ,hτ,hs⟩,fun xs hx =>?_⟩
 obtain⟨h1,h2⟩:=QS hx hτ hd
 obtain⟨y,h3,h4⟩:=h xs (by rw[h1,hs,aen]) h2
 refine⟨g y,?_,?_⟩
 ·show xs=E.cells (f (g y))
  rw[hg,<- h3,aeU]
 ·show ok (f (g y))
  rw[hg];exact h4
def OpA {α:Type} (T:Nat->Option Ty) (n t:Nat) (A:Arg α) (ok:α->Prop):Prop:=∀d,tu T n t d->∃x,d=A.d x∧ok x
theorem abt {α:Type} {E:iC α} {ok:List α->Prop} {e:Nat} (hτ:T t=some τ) (hd:τ.ds=.slice e) (hE:OL T n t (OM E) ok):OpA T n t (mL E) ok:=fun d h=>by
 obtain⟨x,h1,h2⟩:=hE.2 _ (TC h hτ hd)
 simp only[y8,adY,and_true]at h1
 exact⟨x,h1,h2⟩
theorem oaS {α:Type} {E:iC α} {ok:α->Prop} {fs:List (Nat×Nat)} (hτ:T t=some τ) (hd:τ.ds=.struct fs) (hE:OL T n t E ok):OpA T n t (cX E) ok:=fun d h=>by
 obtain⟨xs,rfl,h1⟩:=O3 h hτ hd
 obtain⟨x,h1,h2⟩:=hE.2 _ h1
 exact⟨x,by rw[h1];rfl,h2⟩
def U3 {α:Type} (T:Nat->Option Ty) (n:Nat) (ts:List Nat) (A:lz α) (ok:α->Prop):Prop:=∀ar:List D,ar.length=ts.length->(∀(j:Nat) u,ts[j]? = some u->∃x,ar[j]? = some x∧tu T n u x)->∃x,ar=A.ds x∧ok x
theorem acS {α:Type} {A:Arg α} {ok:α->Prop} (h:OpA T n t A ok):U3 T n [t] (fU A) ok:=fun ar hl hs=>by
 obtain⟨a,rfl,ha⟩:=aba hl hs
 obtain⟨x,rfl,hx⟩:=h a ha
 exact⟨x,rfl,hx⟩
theorem abu {α β:Type} {A:Arg α} {ok:α->Prop} {B:lz β} {ok':β->Prop} {ts:List Nat} (h:OpA T n t A ok) (h':U3 T n ts B ok'):U3 T n (t::ts) (jh A B) (fun x=>ok x.1∧ok' x.2):=fun ar hl hs=>by
 obtain⟨a,ar,rfl,ha,hl',hs'⟩:=abb hl hs
 obtain⟨x,rfl,hx⟩:=h a ha
 obtain⟨y,rfl,hy⟩:=h' ar hl' hs'
 exact⟨(x,y),rfl,hx,hy⟩
theorem aau {P:Program} {f:FuncId} {α:Type} {A:lz α} {F:α->Option Bool} {ok:α->Prop} {ts:List Nat} (ho:U3 T n ts A ok) (hG:b6 P f (fX A F (fun r =>.clean (.bool r)))) (h:∀x,ok x->F x=some true) (ar:List D) (hl:ar.length=ts.length)
  (hs:∀(j:Nat) u,ts[j]? = some u->∃x,ar[j]? = some x∧tu T n u x):OO P f ar (.bool true):=by
 obtain⟨x,rfl,hx⟩:=ho ar hl hs
 refine hG.calls none _ _ none ?_
 rw[aU,h x hx]
 rfl
end
def Cs {α:Type} (e:iC α):iC (List α):=⟨fun l=>[.nx l.length (ae e l)],1,fun _=>rfl,by decide,fun x y h=>by
 simp only[adY,D.nx.injEq,and_true]at h
 exact tW e _ _ h.2⟩
theorem uY {α:Type} (e:iC α) (l:List α):(Cs e).cells l=[.nx l.length (ae e l)]:=agq
theorem tU {α:Type} (e:iC α):(Cs e).size=1:=agq
section
variable {α:Type} (E:iC α) {l:List α} {i:Int} {x x':α}
theorem JB (cs:List D) (o:Nat) (d:D) (h:o<cs.length):(putCells cs o [d]).length=cs.length:=by
 simp[putCells];omega
theorem JC (cs:List D) (o:Nat) (d d':D) (h:o<cs.length):putCells (putCells cs o [d]) o [d']=putCells cs o [d']:=by
 unfold putCells
 have h1:(cs.take o).length=o:=by simp;omega
 have h2:(cs.take o++[d]++cs.drop (o+[d].length)).take o=cs.take o:=by
  rw[aeO,aeS (by omega),aeT (by omega)]
 have h3:(cs.take o++[d]++cs.drop (o+[d].length)).drop (o+[d'].length)=cs.drop (o+[d'].length):=by
  rw[aeP (by simp;omega),afi (by simp;omega),aff]
  rfl
 rw[h2,h3]
theorem Jp (fo:Nat) (h:P.idx l i=some x) (hfo:fo+1<=E.size):i.toNat*E.size+fo<(ae E l).length:=by
 have:=jQ E h
 rw[bN]
 omega
theorem NU (fo:Nat) (d d':D) (h:P.idx l i=some x) (hc:E.cells x'=putCells (E.cells x) fo [d']) (hfo:fo+1<=E.size):putCells (putCells (ae E l) (i.toNat*E.size+fo) [d]) (i.toNat*E.size+fo) [d']=ae E (l.set i.toNat x'):=by
 rw[JC _ _ _ _ (Jp E fo h hfo)]
 exact eO E fo [d'] h hc hfo
theorem SM (fo:Nat) (d:D) (h:P.idx l i=some x) (hfo:fo+1<=E.size):i.toNat*E.size+fo+1<=(putCells (ae E l) (i.toNat*E.size+fo) [d]).length:=by
 rw[JB _ _ _ (Jp E fo h hfo)]
 exact Jp E fo h hfo
end
theorem HU {t s nv n o:Nat} {fz:Bool} {cs xs cs':List D} : zq t s nv fz cs o (some ⟨nv,t,cs',fz,true,false⟩) (some (.nx n xs))=[.nr t s nv (putCells cs o [.nx n cs'])]:=by
 simp[zq,Hu]
theorem HT {t s nv n o:Nat} {fz:Bool} {cs xs:List D} : zq t s nv fz cs o none (some (.nx n xs))=[.nr t s nv (putCells cs o [.und])]:=agq
theorem SB {α:Type} {E:iC α} {T:Nat->Option Ty} {el B ty' s f:Nat} {φ:Ty} {k:IntKind} {n:Int} {z:α} {m:List α} (hφ:T el=some φ) (hz:uF φ f=E.cells z) (hs:φ.size=E.size) (hd:(φ.zero.map nJ).all fk=true) (hl:φ.zero.length=φ.size) (hn:aaD ((φ.zero.map nJ).drop f).head? = true) (hB:φ.bytes=B) (h:EC B n n z=some m)
  : ∀(b c:Nat) (z0:List Value) (q:Bool) (e d:Nat),d<1000000->kP T ⟨.slice el,b,c,z0,q⟩ e d ty' s f (.int k n) (.int k n)=some ⟨.buf d e φ.size 0 m.length,[(d,some ⟨e,el,[.nr ty' s (4*e+2) (ae E m)],false,true,true⟩)]⟩:=by
 intro b c z0 q e d hdp
 obtain⟨h1,h2,h3,h4,h5⟩:=mk_one E h
 have hnat:np (.int k n)=some n.toNat:=by simp[np,h1]
 have hpos:=E.pos
 unfold kP
 simp only[hφ,hnat]
 rw[if_pos ⟨adA _,by rw[h2];exact h3,by rw[h2,hB];exact h5,by omega,hd,hl,by rw[cU];exact hdp,hn⟩,hz,h2,h4]
theorem F2 {k:IntKind} {n:Int} : fk (.int k n)=true:=agq
theorem Ca {b:Bool} : fk (.bool b)=true:=agq
theorem F3 {b:ByteArray} : fk (.str b)=true:=agq
theorem KX {a b:Bool} {n:Nat} {xs:List D} : fk (.sl a b n xs)=true:=agq
noncomputable def bR {α β:Type} (A:lz α) (F:α->Option β) (R:β->Nat×Nat×Nat×Nat×Nat×List D):List D->Option (Nat×Nat×Nat×Nat×Nat×List D):=fun ds=>open Classical in if h:∃a,A.ds a=ds then (F (Classical.choose h)).map R else none
theorem aaz {α β:Type} (A:lz α) (F:α->Option β) (R:β->Nat×Nat×Nat×Nat×Nat×List D) (a:α):bR A F R (A.ds a)=(F a).map R:=by
 have h:∃b,A.ds b=A.ds a:=⟨a,rfl⟩
 simp only[bR]
 rw[dif_pos h,A.inj _ _ (Classical.choose_spec h)]
theorem WH {α β:Type} {A:lz α} {F:α->Option β} {R:β->Nat×Nat×Nat×Nat×Nat×List D} {ds:List D} {q:Nat×Nat×Nat×Nat×Nat×List D} (h:bR A F R ds=some q):∃a r,ds=A.ds a∧F a=some r∧q=R r:=by
 unfold bR at h
 split at h
 ·rename_i he
  rw[ady]at h
  obtain⟨r,h1,h2⟩:=h
  exact⟨_,r,(Classical.choose_spec he).symm,h1,h2.symm⟩
 ·cases h
structure FOk (P:Program) (f:FuncId) (p:List D->Option (Nat×Nat×Nat×Nat×Nat×List D)):Prop where
 callable:dw P f
 calls:∀args ty t s S n cs,p args=some (ty,t,s,S,n,cs)->Iu P f args ty t s S n cs
theorem FOk.of {P:Program} {T:Nat->Option Ty} {Γ:Env} (hT:jK P T) (hΓ:bA P Γ) (hm:P.follows .mixedOrders=true) {α β:Type} {A:lz α} {F:α->Option β} {R:β->Nat×Nat×Nat×Nat×Nat×List D} {f:FuncId} {fn:Func} (hf:P.funcs[f]? = some fn) (hok:(match fn.body with|some c=>codeOk c|none=>true)=true)
  (hc:(fn.name == "runtime.NumGoroutine")=false∧fn.body.isNone=false) (hn:∀a,(A.ds a).length<=fn.ntmps) (h:∀a r,F a=some r->sP T Γ FU fn (A.ds a)=some (R r)):FOk P f (bR A F R) where
 callable:=⟨fn,hf,hc⟩
 calls args ty t s S n cs hg:=by
  obtain⟨a,r,rfl,hr,he⟩:=WH hg
  exact JV hT hΓ hm hf hok (hn a) ((h a r hr).trans (by rw[he]))
theorem OG {α:Type} {E EN:iC α} (h:∀x,(EN.cells x).map Ev=E.cells x):∀l:List α,(ae EN l).map Ev=ae E l
 | []=>rfl
 | x::l=>by rw[aL,aL,aeX,h x,OG h l]
theorem Hp {α:Type} {EN:iC α} {s:Nat} (h:∀x,(EN.cells x).all (v7 s)=true):∀l:List α,(ae EN l).all (v7 s)=true
 | []=>rfl
 | x::l=>by rw[aL,List.all_append,h x,Hp h l];rfl
theorem b6.ofW {P:Program} {T:Nat->Option Ty} {Γ:Env} (hT:jK P T) (hΓ:bA P Γ) (hm:P.follows .mixedOrders=true) {α γ:Type} {A:lz α} {F:α->Option (List γ)} {E EN:iC γ} {ty t s:Nat} {f:FuncId} {fn:Func} (hf:P.funcs[f]? = some fn) (hok:(match fn.body with|some c=>codeOk c|none=>true)=true)
  (hc:(fn.name == "runtime.NumGoroutine")=false∧fn.body.isNone=false) (hn:∀a,(A.ds a).length<=fn.ntmps) (hs:EN.size=E.size) (hu:∀x,(EN.cells x).map Ev=E.cells x) (ho:∀x,(EN.cells x).all (v7 s)=true)
  (h:∀a r,F a=some r->sP T Γ FU fn (A.ds a)=some (ty,t,s,E.size,r.length,ae EN r)):b6 P f (fX A F fun r =>.clean (.sl false false r.length (ae E r))) where
 calls lent adv rk out hg:=by
  obtain⟨rfl,rfl,a,r,rfl,hr,rfl⟩:=yh hg
  refine JX (F:=FU) hT hΓ hm hf hok (hn a) ?_
  unfold QW Wb
  rw[h a r hr]
  simp only
  have hl:(ae EN r).length=r.length*E.size:=by rw[bN,hs]
  rw[if_pos ⟨by rw[hl];exact adA _,Hp ho r⟩,OG hu r,aeT (by rw[bN];exact adA _)]
 callable:=⟨fn,hf,hc⟩
noncomputable def E8 {α β γ:Type} (ty t s:Nat) (EN:iC γ) (A:lz α) (F:γ->α->Option (γ×β)) (R:β->D):Nat->Nat->Nat->Nat->List D->List D->Option (D×List D):=fun ty' t' s' o cs args =>
 open Classical in if h:∃p:List D×List D×γ×α,ty'=ty∧t'=t∧s'=s∧cs=p.1++(EN.cells p.2.2.1++p.2.1)∧o=p.1.length∧args=A.ds p.2.2.2 then
  (F (Classical.choose h).2.2.1 (Classical.choose h).2.2.2).map fun r=>(R r.2,(Classical.choose h).1++(EN.cells r.1++(Classical.choose h).2.1)) else none
theorem Jo {α β γ:Type} (ty t s:Nat) (EN:iC γ) (A:lz α) (F:γ->α->Option (γ×β)) (R:β->D) (pre post:List D) (x:γ) (a:α) :
  E8 ty t s EN A F R ty t s pre.length (pre++(EN.cells x++post)) (A.ds a)=(F x a).map fun r=>(R r.2,pre++(EN.cells r.1++post)):=by
 have h:∃p:List D×List D×γ×α,ty=ty∧t=t∧s=s∧pre++(EN.cells x++post)=p.1++(EN.cells p.2.2.1++p.2.1)∧pre.length=p.1.length∧A.ds a=A.ds p.2.2.2:=⟨(pre,post,x,a),rfl,rfl,rfl,rfl,rfl,rfl⟩
 obtain⟨_,_,_,h1,h2,h3⟩:=Classical.choose_spec h
 obtain⟨e1,e2⟩:=afs h1 h2
 obtain⟨e3,e4⟩:=afs e2 (by rw[EN.len,EN.len])
 unfold E8
 rw[dif_pos h,<- e1,<- e4,<- EN.inj _ _ e3,<- A.inj _ _ h3]
theorem Ut {α β γ:Type} {ty t s:Nat} {EN:iC γ} {A:lz α} {F:γ->α->Option (γ×β)} {R:β->D} {ty' t' s' o:Nat} {cs args:List D} {d:D} {cs':List D} (h:E8 ty t s EN A F R ty' t' s' o cs args=some (d,cs')) :
  ty'=ty∧t'=t∧s'=s∧∃pre post x a r,cs=pre++(EN.cells x++post)∧o=pre.length∧args=A.ds a∧F x a=some r∧d=R r.2∧cs'=pre++(EN.cells r.1++post):=by
 unfold E8 at h
 split at h
 ·rename_i he
  obtain⟨h1,h2,h3,h4,h5,h6⟩:=Classical.choose_spec he
  rw[ady]at h
  obtain⟨r,k1,k2⟩:=h
  simp only[Prod.mk.injEq]at k2
  exact⟨h1,h2,h3,_,_,_,_,r,h4,h5,h6,k1,k2.1.symm,k2.2.symm⟩
 ·cases h
structure X6 (P:Program) (f:FuncId) (p:Nat->Nat->Nat->Nat->List D->List D->Option (D×List D)):Prop where
 callable:dw P f
 calls:∀ty t s o cs args d cs',p ty t s o cs args=some (d,cs')->Iv P f ty t s o cs args d cs'
theorem X6.of {P:Program} {T:Nat->Option Ty} {Γ:Env} (hT:jK P T) (hΓ:bA P Γ) (hm:P.follows .mixedOrders=true) {α β γ:Type} {ty t s:Nat} {EN:iC γ} {A:lz α} {F:γ->α->Option (γ×β)} {R:β->D} {f:FuncId} {fn:Func} (hf:P.funcs[f]? = some fn) (hok:(match fn.body with|some c=>codeOk c|none=>true)=true)
  (hc:(fn.name == "runtime.NumGoroutine")=false∧fn.body.isNone=false) (hn:∀a,(A.ds a).length+1<=fn.ntmps) (h:∀pre post x a x' r,F x a=some (x',r)->sQ T Γ FU fn ty t s pre.length (pre++(EN.cells x++post)) (A.ds a)=some (R r,pre++(EN.cells x'++post))):X6 P f (E8 ty t s EN A F R) where
 callable:=⟨fn,hf,hc⟩
 calls ty' t' s' o cs args d cs' hg:=by
  obtain⟨rfl,rfl,rfl,pre,post,x,a,r,rfl,rfl,rfl,hr,rfl,rfl⟩:=Ut hg
  exact JW hT hΓ hm hf hok (hn a) (h pre post x a r.1 r.2 hr)
theorem NR {α:Type} {x:Bool×α} {q:α} (h:NQ x=some q):x=(false,q):=by
 obtain⟨b,y⟩:=x
 cases b
 ·cases h;rfl
 ·cases h
theorem Oj {α:Type} {x:Bool×α} {q:α} (h:Oi x=some q):x=(true,q):=by
 obtain⟨b,y⟩:=x
 cases b
 ·cases h
 ·cases h;rfl
def abd {α:Type} (E EN:iC α) (hs:EN.size=E.size) (hd:∀x y,E.cells x≠EN.cells y):iC (Bool×α):=⟨fun p=>match p.1 with|true=>E.cells p.2|false=>EN.cells p.2,E.size,fun p=>by
  obtain⟨b,x⟩:=p
  cases b
  ·exact (EN.len x).trans hs
  ·exact E.len x,E.pos,fun p q h=>by
  obtain⟨b,x⟩:=p
  obtain⟨c,y⟩:=q
  cases b<;>cases c
  ·exact congrArg (Prod.mk false) (EN.inj x y h)
  ·exact absurd h.symm (hd _ _)
  ·exact absurd h (hd _ _)
  ·exact congrArg (Prod.mk true) (E.inj x y h)⟩
theorem GG {α:Type} {EN:iC α} {EF:iC (Bool×α)} (hF:∀x,EF.cells (false,x)=EN.cells x):∀l:List α,ae EN l=ae EF (GF l)
 | []=>rfl
 | x::l=>by
  have ih:=GG hF l
  rw[aL,ih,<- hF x]
  rfl
theorem GH {α:Type} {l:List α} : (GF l).length=l.length:=ad4 ..
theorem CD {γ:Type} {E:iC γ} {C:List γ} {i:Int} {x:γ} (h:P.idx C i=some x) (y:γ):ae E (C.set i.toNat y)=ae E (C.take i.toNat)++(E.cells y++ae E (C.drop (i.toNat+1)))∧(ae E (C.take i.toNat)).length=i.toNat*E.size:=by
 have hb:=pb h
 refine⟨?_,by rw[bN,adT];congr 1;omega⟩
 rw[Qv E C i.toNat x (I8 h) y,<- ew,aeO]
 congr 2
 have:i.toNat*E.size+E.size=(i.toNat+1)*E.size:=by rw[aew]
 rw[this,ow]
theorem V8 {γ:Type} {E:iC γ} {C:List γ} {i:Int} {x:γ} (h:P.idx C i=some x):ae E C=ae E (C.take i.toNat)++(E.cells x++ae E (C.drop (i.toNat+1))):=by
 have h1:=(CD (E:=E) h x).1
 have h2:C.set i.toNat x=C:=by
  obtain⟨hlt,he⟩:=ad3.1 (I8 h)
  rw[<- he,List.set_getElem_self]
 rwa [h2]at h1
theorem SA {α β γ:Type} {ty t s:Nat} {EN:iC γ} {EF:iC (Bool×γ)} (hF:∀x,EF.cells (false,x)=EN.cells x) {A:lz α} {F:γ->α->Option (γ×β)} {R:β->D} {C:List (Bool×γ)} {i:Int} {q:γ} (h:P.idx C i=some (false,q)) (a:α) :
  E8 ty t s EN A F R ty t s (i.toNat*EF.size) (ae EF C) (A.ds a)=(F q a).map fun r=>(R r.2,ae EF (C.set i.toNat (false,r.1))):=by
 have h1:=V8 (E:=EF) h
 have h2:=(CD (E:=EF) h (false,q)).2
 rw[h1,<- h2,hF,Jo]
 congr 1
 funext r
 rw[(CD (E:=EF) h (false,r.1)).1,hF]
theorem XW {K:Nat} (pre cs post:List D) (hK:cs.length=K):qW K pre.length (pre++(cs++post))=pre++(cs.map Ev++post):=by
 apply afB
 intro j
 rw[sR]
 by_cases h1:j<pre.length
 ·rw[aee (l₁:=pre) h1,aee (l₁:=pre) h1,adN h1]
  simp only[Option.map_some]
  rw[if_neg (by omega)]
 ·rw[aef (l₁:=pre) (by omega),aef (l₁:=pre) (by omega)]
  by_cases h2:j-pre.length<cs.length
  ·rw[aee (l₁:=cs) h2,aee (l₁:=cs.map Ev) (by rw[ad4];exact h2),adx,adN h2]
   simp only[Option.map_some]
   rw[if_pos (by omega)]
  ·rw[aef (l₁:=cs) (by omega),aef (l₁:=cs.map Ev) (by rw[ad4];omega),ad4]
   cases post[j-pre.length-cs.length]? with
   | none=>rfl
   | some d =>
    simp only[Option.map_some]
    rw[if_neg (by omega)]
theorem abh {γ:Type} {s:Nat} {E EN:iC γ} {EF:iC (Bool×γ)} (hF:∀x,EF.cells (false,x)=EN.cells x) (hT:∀x,EF.cells (true,x)=E.cells x) (hu:∀x,(EN.cells x).map Ev=E.cells x) (ho:∀x,(EN.cells x).all (v7 s)=true) {C:List (Bool×γ)} {i:Int} {x:Bool×γ} (h:P.idx C i=some x) (q:γ) :
  (((ae EF (C.set i.toNat (false,q))).drop (i.toNat*EF.size)).take EF.size).all (v7 s)=true∧qW EF.size (i.toNat*EF.size) (ae EF (C.set i.toNat (false,q)))=ae EF (C.set i.toNat (true,q)):=by
 obtain⟨h1,h2⟩:=CD (E:=EF) h (false,q)
 have h3:=EF.len (false,q)
 have hb:=pb h
 refine⟨?_,?_⟩
 ·rw[h1,<- h2,List.drop_left' rfl,aeS (by omega),aeT (by omega),hF]
  exact ho q
 ·rw[(CD (E:=EF) h (true,q)).1,h1,<- h2,XW _ _ _ h3,hF,hu,hT]
section
variable {pre l:List D} {k m:Nat}
theorem XR:(pre++l).take (pre.length+k)=pre++l.take k:=List.take_length_add_append ..
theorem Tn:(pre++l).take pre.length=pre:=List.take_left' rfl
theorem Pg:(pre++l).drop (pre.length+k)=l.drop k:=List.drop_length_add_append ..
theorem RV:(pre++l).drop pre.length=l:=List.drop_left' rfl
theorem RW:(pre++l).drop (pre.length+k+m)=l.drop (k+m):=by rw[adV,Pg]
theorem PN:(pre.length+k<=(pre++l).length)=(k<=l.length):=by rw[aeC];exact propext ⟨fun h=>by omega,fun h=>by omega⟩
theorem Ss:(pre.length+k+m<=(pre++l).length)=(k+m<=l.length):=by rw[adV,PN]
end
theorem Nq {ty t s nv:Nat} {cs:List D} : gD ty t s nv cs=⟨0,ty,[.nr t s nv cs],false,true,true⟩:=agq
theorem Z5:type_of% (ai @Nq<|ai @XR<|ai @Tn<|ai @Pg<|ai @RV<|ai @RW<|ai @PN<|ai @Ss<|@aeO):=⟨@Nq,@XR,@Tn,@Pg,@RV,@RW,@PN,@Ss,@aeO⟩
theorem MD {τ:Ty} {h:Nat->Option Row} {x v o:Nat} : nI τ h x v o none=none:=agq
theorem Sf {d:D} {l:List D} : (d::l).head? = some d:=agq
theorem SR {r:Row} {f:Row->Option Row} : (some r).bind f=f r:=agq
theorem SQ {f:Row->Option Row} : (none:Option Row).bind f=none:=agq
theorem KN {x o:Nat} : clP x o none=none:=agq
theorem Kh {q:Option (List D×List Nat)} : caC none q=none:=agq
theorem FF {Γ:Env} {h:Nat->Option Row} {e g:Nat} {dst:Option Nat} : Vq Γ h e dst g none=none:=agq
theorem XX {o:Nat} {cs:List D} : qW 0 o cs=cs:=It o cs
theorem Y8 {x o n:Nat} (h:n<1000000):(NK x o=n)=False:=by
 have:=fY x o
 have:=cU
 exact propext ⟨fun e=>by omega,fun e=>e.elim⟩
theorem U1 {x o n:Nat} (h:n<1000000):(n=NK x o)=False:=by
 have:=fY x o
 have:=cU
 exact propext ⟨fun e=>by omega,fun e=>e.elim⟩
theorem An {g:Nat} : a6.lends g=false:=agq
theorem Hj {g:Nat} {l:Option (D×Row)} {adv:List D} : a6.sem g l adv=none:=agq
theorem BS {Γ:Env} {h:Nat->Option Row} {e g:Nat} {dst:Option Nat} {args:List D} {b:Bool} (hb:b=false) (hs:∀adv,Γ.sem g none adv=none):BR b Γ h e dst g args=none:=by
 subst hb
 rw[y3]
 simp only[Vq]
 cases bl h args with
 | none=>rfl
 | some q =>
  obtain⟨adv,fr⟩:=q
  simp only[hs]
  rfl
theorem Z4:type_of% (ai @An<|ai @Hj<|@BS):=⟨@An,@Hj,@BS⟩
theorem vn:type_of% (ai @HT<|ai @GH<|ai @HU<|ai @Y8<|ai @U1<|ai @T4.eq_1<|ai @KN<|ai @Kh<|ai @FF<|ai @XX<|ai @SR<|ai @SQ<|ai @MD<|ai @Sf<|ai @uY<|ai @F2<|ai @Ca<|ai @F3<|ai @KX<|@tU):=⟨@HT,@GH,@HU,@Y8,@U1,@T4.eq_1,@KN,@Kh,@FF,@XX,@SR,@SQ,@MD,@Sf,@uY,@F2,@Ca,@F3,@KX,@tU⟩
end Go.Proofs.Ytchndpjlijbplaa.Am
namespace Go.Proofs.Ytchndpjlijbplaa.Am
open Go.RowKit Go.Proofs.Ytchndpjlijbplaa.P Go.Shelf Go.Lib
set_option linter.unusedSimpArgs false
set_option linter.unusedVariables false
section
variable {P:Program}
theorem sJ (w:World) (dT sT ty elem:TypeId) (K b o dLen dCap:Nat) (a:Addr) (sLen sCap:Nat) (cs:List Value)
  (hu:P.underlying dT=some (.slice elem)) (hs:(P.info? elem).map (·.size)=some K) (hn:cs.length=Nat.min sLen dLen*K)
  (hsrc:∀j v,cs[j]? = some v->w.cell? (a.add j)=some v) (hc:∀j,j<cs.length->(w.cell? ⟨b,o+j,none⟩).isSome=true) (hf:∀j,j<cs.length->w.frozen? ⟨b,o+j,none⟩=false) (h1:∀v∈cs,v.oneCell'=true) :
  (Builtin.copy_ #[dT,sT] ty #[.slice (some ⟨b,o,none⟩) dLen dCap,.slice (some a) sLen sCap]).run P w=.ok (goInt (Nat.min sLen dLen)) (w.setCells b o cs):=by
 have hl:=run_loadCells_list (P:=P) w a cs hsrc
 have hst:=run_storeCells_cells (P:=P) b o cs 0 w (by simpa using hc) (by simpa using hf) h1
 cases hq:P.info? elem with
 | none=>simp[hq]at hs
 | some i =>
  have hi:i.size=K:=by simpa [hq] using hs
  simp[Builtin.copy_,run_underlying hu,Builtin.lenOf,Builtin.firstCells,sizeOf,typeInfo,hq,hi,<- hn,hl,hst]
theorem zB (w:World) {ops:Array Oper} {rest:List Oper} {o:Oper} {a:Act} {Q:Exit->Act->World->Prop} (hgd:o.guard=none) (s:Operand) (t:TypeId)
  (ho:o.op=.call { callee := .builtin .clear,args:=#[s],argTypes:=#[t] }) (v:Value) (hd:a.eval s=v) {v':Value} {w':World}
  (hr:(Builtin.clear_ #[t] o.type #[v]).run P w=.ok v' w') (h:wpList P ops Q rest (a.put o.dst v') w'):wpList P ops Q (o::rest) a w :=
 wpList_plain hgd fun _ hK=>by
  unfold Oper.wp execOp
  simp only[ho,resolve,invoke,builtin,ad7,Sem.run_pure,Result.andThen_ok,List.map_toArray,adG,aeo,hd,hr]
  exact hK _ _ h
theorem N9 (w:World) (t e ty:TypeId) (z:Value) (ht:P.underlying t=some (.slice e)) (hv:∀w,(zeroValue e).run P w=.ok z w) (b o n c:Nat) (hn:0<n) (cs:List Value) (hcs:(Builtin.zeroCells z.cells n).toList=cs) (h1:∀v∈cs,v.oneCell'=true)
  (hc:∀j,j<cs.length->(w.cell? ⟨b,o+j,none⟩).isSome=true) (hf:∀j,j<cs.length->w.frozen? ⟨b,o+j,none⟩=false) :
  (Builtin.clear_ #[t] ty #[.slice (some ⟨b,o,none⟩) n c]).run P w=.ok (.tuple #[]) (w.setCells b o cs):=by
 have hst:=run_storeCells_cells (P:=P) b o cs 0 w (by simpa using hc) (by simpa using hf) h1
 simp only[Nat.add_zero]at hst
 obtain⟨m,rfl⟩:∃m,n=m+1:=⟨n-1,by omega⟩
 simp[Builtin.clear_,run_underlying ht,hv,hcs,hst]
end
theorem I9:(Try.prog.info? 74).map (fun i=>(i.zero,i.size,i.bytes))=some (some (Value.agg #[.int .i64 0,.int .i64 0,.slice none 0 0,.int .i64 0,.slice none 0 0]),5,72):=by kernel_rfl
theorem W8:(Try.prog.info? 74).map (·.size)=some 5:=by kernel_rfl
set_option maxHeartbeats 4000000 in
set_option maxRecDepth 100000 in
theorem KY (a:Option Addr) (n c i:Nat) (w:World) (hi:i<=n) (hn:n<=c) (hc:c<=9223372036854775807) (ha:a=none->c=0) :
  Calls Try.prog 70 #[.slice a n c,.int .i64 i,.int .i64 i] w fun e w'=>e=.returned (.slice a n c)∧w'=w:=by
 go_enter Try.func70,Try.ntmps70
 cases a with
 | none =>
  have:=ha rfl
  subst this
  obtain rfl:n=0:=by omega
  obtain rfl:i=0:=by omega
  go_wp2
  all_goals (go_ret;exact⟨rfl,rfl⟩)
 | some a =>
  obtain⟨ab,ao,asp⟩:=a
  go_wp2
  all_goals (go_ret;exact⟨rfl,rfl⟩)
def ly:Value := .agg #[.int .i64 0,.int .i64 0,.slice none 0 0,.int .i64 0,.slice none 0 0]
theorem AU:ly.cells = #[.int .i64 0,.int .i64 0,.slice none 0 0,.int .i64 0,.slice none 0 0]:=rfl
theorem mJ (n:Nat):(Builtin.zeroCells ly.cells n).toList.length=n*5:=by
 simp[Builtin.zeroCells,AU]
theorem UP (n:Nat):∀v∈(Builtin.zeroCells ly.cells n).toList,v.oneCell'=true:=by
 intro v hv
 simp only[Builtin.zeroCells,AU,aes,adz]at hv
 obtain⟨i,_,rfl⟩:=hv
 have h5:i % 5<5:=aet _ (by decide)
 simp only[aeM,List.length_cons,List.length_nil,aen,Nat.reduceAdd]
 generalize i % 5=k at *
 match k,h5 with
 | 0,_=>rfl
 | 1,_=>rfl
 | 2,_=>rfl
 | 3,_=>rfl
 | 4,_=>rfl
set_option maxHeartbeats 4000000 in
set_option maxRecDepth 100000 in
theorem VO (b off n c i j:Nat) (cs:List Value) (w:World) (hl:cs.length=n*5) (hcs:∀k v,cs[k]? = some v->w.cell? ⟨b,off+k,none⟩=some v) (hfz:∀k,w.frozen? ⟨b,k,none⟩=false) (h1:∀v∈cs,v.oneCell'=true)
  (hnc:n<=c) (hc:c<=9223372036854775807) (hij:i<j) (hj:j<=n) :
  Calls Try.prog 70 #[.slice (some ⟨b,off,none⟩) n c,.int .i64 i,.int .i64 j] w fun e w'=>e=.returned (.slice (some ⟨b,off,none⟩) (i+(n-j)) c) ∧
   w'=(w.drew.setCells b (off+i*5) (cs.drop (j*5))).setCells b (off+(i+(n-j))*5) (Builtin.zeroCells ly.cells (n-(i+(n-j)))).toList:=by
 have t0:=Try.underlying67
 obtain⟨i0,hi0,hz0,hz1,hz2⟩:=info_parts I9
 have v0:∀w,(zeroValue 74).run Try.prog w=.ok ly w:=fun w=>by simp[zeroValue,typeInfo,hi0,hz0,ly]
 obtain⟨A,hA,hsrc⟩:∃A:Addr,(if c=j then some (⟨b,off,none⟩:Addr) else some ⟨b,off+j*5,none⟩)=some A∧Hid (∀t u,(cs.drop (j*5))[t]? = some u->w.drew.cell? (A.add t)=some u):=by
  by_cases h:c=j
  ·refine⟨⟨b,off,none⟩,by simp[h],fun t u hu =>?_⟩
   have h0:(cs.drop (j*5)).length=0:=by rw[adU,hl];omega
   rw[List.length_eq_zero_iff.1 h0]at hu
   simp at hu
  ·refine⟨⟨b,off+j*5,none⟩,by simp[h],fun t u hu =>?_⟩
   rw[adR]at hu
   rw[agp,adV]
   exact hcs _ _ hu
 have hdl:(cs.drop (j*5)).length=(n-j)*5:=by rw[adU,hl,Nat.sub_mul]
 have hsp:∀k,k<n*5->(w.cell? ⟨b,off+k,none⟩).isSome=true:=fun k hk=>by
  rw[hcs k _ (adN (by omega))];rfl
 have s1:Hid ((cs.drop (j*5)).length=(n-j)*5):=hdl
 have s2:Hid (∀u∈cs.drop (j*5),u.oneCell'=true):=fun u hu=>h1 u (aei hu)
 have s3:Hid (∀t,t<(cs.drop (j*5)).length->(w.drew.cell? ⟨b,off+i*5+t,none⟩).isSome=true∧w.drew.frozen? ⟨b,off+i*5+t,none⟩=false):=by
  intro t ht
  rw[hdl]at ht
  rw[adV]
  exact⟨hsp _ (by omega),hfz _⟩
 obtain⟨W1,hW1⟩:∃W1,W1=w.drew.setCells b (off+i*5) (cs.drop (j*5)):=⟨_,rfl⟩
 have hcl:∀ty,(Builtin.clear_ #[67] ty #[.slice (some ⟨b,off+(i+(n-j))*5,none⟩) (n-(i+(n-j))) (c-(i+(n-j)))]).run Try.prog W1=.ok (.tuple #[]) (W1.setCells b (off+(i+(n-j))*5) (Builtin.zeroCells ly.cells (n-(i+(n-j)))).toList) :=
  fun ty=>N9 W1 _ _ ty ly t0 v0 b _ _ _ (by omega) _ rfl (UP _) (fun k hk=>by
   rw[mJ]at hk
   rw[hW1,adV]
   exact isSome_setCells b _ _ _ (fun t ht=>(s3.out t ht).1) _ (hsp _ (by omega))) (fun k hk=>by rw[hW1,World.frozen?_setCells];exact hfz _)
 have hW:Hid (W1=w.drew.setCells b (off+i*5) (cs.drop (j*5))):=hW1
 rw[<- hW1]
 have hic:i<=c:=by omega
 have hjc:j<=c:=by omega
 have hne:¬(i=j):=by omega
 have mixed:Try.prog.follows .mixedOrders=true:=by kernel_rfl
 generalize (Builtin.zeroCells ly.cells (n-(i+(n-j)))).toList=Z at hcl ⊢
 clear hW1 hcs hdl hsp
 go_enter Try.func70,Try.ntmps70
 go_wp2_with fail
 go_region_law_o (refine step_append_room rfl (.tmp 22) (.tmp 25) 67 rfl 74 i0 5 t0 hi0 hz1 b off i c (by simp[Act.eval,Act.put]) A (n-j) (c-j) (cs.drop (j*5)) (by simp[Act.eval,Act.put]) s1.out hsrc.out s2.out (by omega) s3.out ?_;rw[<- hW.out])
 go_wp2_with (at_builtin;refine zB _ rfl _ 67 rfl _ rfl (hcl _) ?_)
 go_ret
 exact⟨rfl,rfl⟩
set_option maxHeartbeats 4000000 in
set_option maxRecDepth 100000 in
theorem T3 (b off n c i vb voff m vc:Nat) (cs vs:List Value) (w:World) (hi:i<n) (hm:0<m) (hroom:n+m<=c) (hc63:c<=9223372036854775807) (hvb:vb≠b)
  (hcl:cs.length=n*5) (hvl:vs.length=m*5)
  (hcs:∀j v,cs[j]? = some v->w.cell? ⟨b,off+j,none⟩=some v) (hsp:∀j,j<(n+m)*5->(w.cell? ⟨b,off+j,none⟩).isSome=true) (hfz:∀j,w.frozen? ⟨b,j,none⟩=false)
  (hvs:∀j v,vs[j]? = some v->w.cell? ⟨vb,voff+j,none⟩=some v) (h1c:∀v∈cs,v.oneCell'=true) (h1v:∀v∈vs,v.oneCell'=true)
  (tA tB:TypeId) (kA kB:Nat) (hsa:w.shape? vb=some (tA,kA)) (hsb:w.shape? b=some (tB,kB)) (hkB:kB≠0) (hfa:w.frozen? ⟨vb,voff,none⟩=false) (hfe:w.frozen? ⟨vb,kA,none⟩=false) :
  Calls Try.prog 99 #[.slice (some ⟨b,off,none⟩) n c,.int .i64 i,.slice (some ⟨vb,voff,none⟩) m vc] w fun e w' =>
   e=.returned (.slice (some ⟨b,off,none⟩) (n+m) c)∧w'=(w.drew.setCells b (off+(i+m)*5) (cs.drop (i*5))).setCells b (off+i*5) vs:=by
 have t0:=Try.underlying67
 have hz1:¬((m:Int)=0):=by omega
 have hz2:¬((i:Int)=(n:Int)):=by omega
 have hsz:=W8
 have hov:∀lb cb,(callFunc 114 #[.slice (some ⟨vb,voff,none⟩) m vc,.slice (some ⟨b,off+(i+m)*5,none⟩) lb cb]).run Try.prog w=.ok (.value (.bool false)) w:=fun lb cb=>by
  rw[run_callFunc_extern Try.func114 (by kernel_rfl) (by kernel_rfl) (by kernel_rfl) (e:=Extern.SlicesOverlaps.overlaps #[67,67] #[4]) (by kernel_rfl),
   Lib.run_overlaps_apart w 67 4 74 t0 5 Try.sizeOf74 ⟨vb,voff,none⟩ ⟨b,off+(i+m)*5,none⟩ m vc lb cb hvb tA tB kA kB hsa hsb hkB hfa hfe]
  rfl
 have hdl:(cs.drop (i*5)).length=(n-i)*5:=by rw[adU,hcl,Nat.sub_mul]
 have mixed:Try.prog.follows .mixedOrders=true:=by kernel_rfl
 have hw1:IntKind.i64.wrap ((i:Int)+(m:Int))=(i:Int)+(m:Int):=by rw[IntKind.wrap_i64];omega
 have hb1:(0:Int)<=(i:Int)+(m:Int):=by omega
 have hin:i<=n:=by omega
 have htn:((i:Int)+(m:Int)).toNat=i+m:=by omega
 have hb2:¬(c=i+m):=by omega
 have hb3:(i:Int)<=(n:Int)+(m:Int):=by omega
 have hb4:¬(c=i):=by omega
 have hcp1:∀ty dc sc,(Builtin.copy_ #[67,67] ty #[.slice (some ⟨b,off+(i+m)*5,none⟩) (n+m-(i+m)) dc,.slice (some ⟨b,off+i*5,none⟩) (n+m-i) sc]).run Try.prog w.drew=.ok (goInt (Nat.min (n+m-i) (n+m-(i+m)))) (w.drew.setCells b (off+(i+m)*5) (cs.drop (i*5))):=fun ty dc sc =>
  sJ w.drew _ _ ty 74 5 b (off+(i+m)*5) (n+m-(i+m)) dc ⟨b,off+i*5,none⟩ (n+m-i) sc (cs.drop (i*5)) t0 hsz (by rw[hdl];congr 1;simp only[Nat.min_def];split<;>omega)
   (fun j v hj=>by rw[agp,adV];exact hcs (i*5+j) v (by rwa [adR]at hj))
   (fun j hj=>by rw[adV];exact hsp _ (by omega)) (fun j hj=>hfz _) (fun v hv=>h1c v (aei hv))
 obtain⟨W1,hW1⟩:∃W1,W1=w.drew.setCells b (off+(i+m)*5) (cs.drop (i*5)):=⟨_,rfl⟩
 have hsp1:∀k,k<(n+m)*5->(W1.cell? ⟨b,off+k,none⟩).isSome=true:=fun k hk=>by
  rw[hW1]
  exact isSome_setCells b _ _ _ (fun j hj=>by rw[adV];exact hsp _ (by omega)) _ (hsp k hk)
 have hcp2:∀(W:World),(∀x,W.cell? x=W1.cell? x)->(∀x,W.frozen? x=W1.frozen? x)->∀ty dc,(Builtin.copy_ #[67,67] ty #[.slice (some ⟨b,off+i*5,none⟩) (n+m-i) dc,.slice (some ⟨vb,voff,none⟩) m vc]).run Try.prog W=.ok (goInt (Nat.min m (n+m-i))) (W.setCells b (off+i*5) vs):=fun W hWc hWf ty dc =>
  sJ W _ _ ty 74 5 b (off+i*5) (n+m-i) dc ⟨vb,voff,none⟩ m vc vs t0 hsz (by rw[hvl];congr 1;simp only[Nat.min_def];split<;>omega)
   (fun j v hj=>by
    rw[agp,hWc,hW1,World.cell?_setCells_out b _ _ _ _ (fun h _=>absurd h hvb)]
    exact hvs j v hj)
   (fun j hj=>by rw[hWc,adV];exact hsp1 _ (by omega)) (fun j hj=>by rw[hWf,hW1,World.frozen?_setCells];exact hfz _) h1v
 rw[<- hW1]at hcp1
 go_enter Try.func99,Try.ntmps99
 go_wp2_with (simp only[hov])
 go_region_law_o (refine step_copy_runI rfl _ _ 67 67 rfl _ _ (by simp[Act.eval,Act.put]) (by simp[Act.eval,Act.put]) (hcp1 _ _ _) ?_)
 go_wp2_with (at_builtin;refine wpList_copy_runI _ rfl _ _ 67 67 rfl _ _ rfl rfl (hcp2 _ (fun _=>rfl) (fun _=>rfl) _ _) ?_)
 go_ret
 first|exact⟨rfl,rfl⟩|exact⟨rfl,by rw[hW1]⟩
set_option maxHeartbeats 4000000 in
set_option maxRecDepth 100000 in
theorem Jb (b off n c vb voff m vc:Nat) (vs:List Value) (w:World) (hm:0<m) (hroom:n+m<=c) (hc63:c<=9223372036854775807)
  (hvl:vs.length=m*5) (hsp:∀j,j<m*5->(w.cell? ⟨b,off+n*5+j,none⟩).isSome=true) (hfz:∀j,w.frozen? ⟨b,j,none⟩=false)
  (hvs:∀j v,vs[j]? = some v->w.cell? ⟨vb,voff+j,none⟩=some v) (h1v:∀v∈vs,v.oneCell'=true) :
  Calls Try.prog 99 #[.slice (some ⟨b,off,none⟩) n c,.int .i64 n,.slice (some ⟨vb,voff,none⟩) m vc] w fun e w' =>
   e=.returned (.slice (some ⟨b,off,none⟩) (n+m) c)∧w'=w.setCells b (off+n*5) vs:=by
 have t0:=Try.underlying67
 have mixed:Try.prog.follows .mixedOrders=true:=by kernel_rfl
 obtain⟨i0,hi0,hz0,hzs,hzb⟩:=info_parts I9
 have hz1:¬((m:Int)=0):=by omega
 have hsrc:Src Try.prog i0.size 67 (.slice (some ⟨vb,voff,none⟩) m vc) m vs w:=Src.ofSlice w t0 ⟨vb,voff,none⟩ m vc vs (by rw[hzs];omega) (fun j u hj=>by rw[agp];exact hvs j u hj) h1v
 have e5:off+n*i0.size=off+n*5:=by rw[hzs]
 have hsp':Hid (∀j,j<vs.length->(w.cell? ⟨b,off+n*i0.size+j,none⟩).isSome=true):=fun j hj=>by rw[e5];exact hsp j (by omega)
 rw[<- e5]
 have hin:n<=c:=by omega
 go_enter Try.func99,Try.ntmps99
 go_wp2_with (at_builtin;refine wpList_append_room_src _ rfl _ _ 67 67 rfl 74 i0 t0 hi0 b off n c rfl _ rfl m vs hsrc hroom hsp'.out (fun _ _=>hfz _) ?_)
 go_ret
 exact⟨rfl,by rw[hzs]⟩
set_option maxHeartbeats 4000000 in
set_option maxRecDepth 100000 in
theorem yd (base:Option Addr) (n c vb voff m vc:Nat) (cs vs:List Value) (w:World) (hm:0<m) (hnc:n<=c) (hc63:c<=9223372036854775807) (hroom:c<n+m) (hbig:(n+m)*72<=140737488355328)
  (hcl:cs.length=n*5) (hvl:vs.length=m*5) (hnil:base=none->n=0)
  (hcs:∀a,base=some a->∀j v,cs[j]? = some v->w.cell? (a.add j)=some v)
  (hvs:∀j v,vs[j]? = some v->w.cell? ⟨vb,voff+j,none⟩=some v) (h1v:∀v∈vs,v.oneCell'=true) :
  Calls Try.prog 99 #[.slice base n c,.int .i64 n,.slice (some ⟨vb,voff,none⟩) m vc] w fun e w' =>
   e=.returned (.slice (some ⟨w.heap.size,0,none⟩) (n+m) (grownCap w (n+m) c 74)) ∧
   w'=w.drew.alloc (.cells ((cs++vs).toArray++Builtin.zeroCells ly.cells (grownCap w (n+m) c 74-(n+m))) 74):=by
 have t0:=Try.underlying67
 have mixed:Try.prog.follows .mixedOrders=true:=by kernel_rfl
 obtain⟨i0,hi0,hz0,hzs,hzb⟩:=info_parts I9
 have hz1:¬((m:Int)=0):=by omega
 have hsrc:Src Try.prog i0.size 67 (.slice (some ⟨vb,voff,none⟩) m vc) m vs w:=by
  rw[hzs]
  exact Src.ofSlice w t0 ⟨vb,voff,none⟩ m vc vs (by omega) (fun j u hj=>by rw[agp];exact hvs j u hj) h1v
 have hold:(Builtin.firstCells i0.size n (.slice base n c)).run Try.prog w.drew=.ok cs.toArray w.drew:=by
  rw[hzs]
  cases base with
  | none =>
   have h0:=hnil rfl
   subst h0
   obtain rfl:cs=[]:=List.length_eq_zero_iff.1 (by omega)
   exact run_firstCells_none w.drew 5 0 0 c
  | some a=>exact run_firstCells_some w.drew 5 n a n c cs (by omega) (fun j v hj=>hcs a rfl j v hj)
 have hrun:∀ty,(Builtin.append_ #[67,67] ty #[.slice base n c,.slice (some ⟨vb,voff,none⟩) m vc]).run Try.prog w=_:=fun ty =>
  run_append_grow_src w 67 67 ty 74 i0 _ t0 hi0 hz0 base n c cs hold _ m vs hsrc hroom (by omega) (by rw[hzb];exact growslice_fits hroom hbig)
 generalize hR:w.drew.alloc (.cells ((cs++vs).toArray++Builtin.zeroCells ly.cells (grownCap w (n+m) c 74-(n+m))) 74)=R
 have hrun':∀ty,(Builtin.append_ #[67,67] ty #[.slice base n c,.slice (some ⟨vb,voff,none⟩) m vc]).run Try.prog w=.ok (.slice (some ⟨w.heap.size,0,none⟩) (n+m) (grownCap w (n+m) c 74)) R:=fun ty=>by rw[hrun ty,<- hR];rfl
 clear hrun hold hR
 go_enter Try.func99,Try.ntmps99
 cases base with
 | none =>
  have h0:=hnil rfl
  subst h0
  go_wp2_with (at_builtin;refine Lib.wpList_append_run _ rfl _ _ _ _ rfl _ _ rfl rfl _ _ (hrun' _) ?_)
  go_ret
  exact⟨rfl,rfl⟩
 | some a =>
  obtain⟨ab,ao,asp⟩:=a
  go_wp2_with (at_builtin;refine Lib.wpList_append_run _ rfl _ _ _ _ rfl _ _ rfl rfl _ _ (hrun' _) ?_)
  all_goals (go_ret;exact⟨rfl,rfl⟩)
set_option maxHeartbeats 4000000 in
set_option maxRecDepth 100000 in
theorem Ws (b off n c i vb voff m vc:Nat) (cs vs:List Value) (w:World) (hi:i<n) (hm:0<m) (hnc:n<=c) (hroom:c<n+m) (hbig:(n+m)*72<=140737488355328)
  (hcl:cs.length=n*5) (hvl:vs.length=m*5)
  (hcs:∀j v,cs[j]? = some v->w.cell? ⟨b,off+j,none⟩=some v)
  (hvs:∀j v,vs[j]? = some v->w.cell? ⟨vb,voff+j,none⟩=some v) (h1c:∀v∈cs,v.oneCell'=true) (h1v:∀v∈vs,v.oneCell'=true) :
  Calls Try.prog 99 #[.slice (some ⟨b,off,none⟩) n c,.int .i64 i,.slice (some ⟨vb,voff,none⟩) m vc] w fun e w' =>
   e=.returned (.slice (some ⟨w.heap.size,0,none⟩) (n+m) (grownCap w (n+m) c 74)) ∧
   w'=(((w.alloc (.cells ((cs.take (i*5)).toArray++Builtin.zeroCells ly.cells (n+m-i)++Builtin.zeroCells ly.cells (grownCap w (n+m) c 74-(n+m))) 74)).drew.setCells w.heap.size (i*5) vs).drew).setCells w.heap.size ((i+m)*5) (cs.drop (i*5)):=by
 have t0:=Try.underlying67
 have mixed:Try.prog.follows .mixedOrders=true:=by kernel_rfl
 obtain⟨i0,hi0,hz0,hzs,hzb⟩:=info_parts I9
 have hz1:¬((m:Int)=0):=by omega
 have hz2:¬((i:Int)=(n:Int)):=by omega
 have hz3:(c:Int)<(n:Int)+(m:Int):=by omega
 have hsz:=W8
 have hbw:b<w.heap.size:=block_lt_of_cell (hcs 0 _ (adN (by omega)))
 have hvw:vb<w.heap.size:=block_lt_of_cell (hvs 0 _ (adN (by omega)))
 have hkk:(n:Int)+(m:Int)-(i:Int)=((n+m-i:Nat):Int):=by omega
 have hik:i+(n+m-i)=n+m:=by omega
 have hold:(Builtin.firstCells i0.size i (.slice (some ⟨b,off,none⟩) i c)).run Try.prog w.drew=.ok (cs.take (i*5)).toArray w.drew:=by
  rw[hzs]
  exact run_firstCells_some w.drew 5 i ⟨b,off,none⟩ i c (cs.take (i*5)) (by rw[adT];omega) (fun j v hj=>by
   rw[agp]
   rw[adQ]at hj
   split at hj
   ·exact hcs j v hj
   ·cases hj)
 obtain⟨G,hG⟩:∃G,G=grownCap w (n+m) c 74:=⟨_,rfl⟩
 obtain⟨ROW,hROW⟩:∃ROW:Array Value,ROW=(cs.take (i*5)).toArray++Builtin.zeroCells ly.cells (n+m-i)++Builtin.zeroCells ly.cells (G-(n+m)):=⟨_,rfl⟩
 have hrz:∀ty,(Builtin.append_ #[67,3] ty #[.slice (some ⟨b,off,none⟩) i c,.int .i64 ((n:Int)+(m:Int)-(i:Int))]).run Try.prog w =
   .ok (.slice (some ⟨w.heap.size,0,none⟩) (n+m) G) (w.drew.alloc (.cells ROW 74)):=fun ty=>by
  have h:=Lib.run_append_grow_zeros w 67 3 ty 74 i0 ly .i64 .i64 t0 Try.underlying3 hi0 hz0 (some ⟨b,off,none⟩) i c (cs.take (i*5)) hold (n+m-i) (by omega) (by omega) (by omega) (by omega) (by rw[hzb];omega) (by rw[hzb,hik];exact growslice_fits hroom hbig)
  rw[hik]at h
  rw[hkk,hROW,hG]
  exact h
 rw[<- hG]
 rw[<- hROW]
 have hRl:(n+m)*5<=ROW.size:=by
  have h1:(Builtin.zeroCells ly.cells (n+m-i)).size=(n+m-i)*5:=by have:=mJ (n+m-i);simpa using this
  rw[hROW,aeL,aeL,h1]
  simp only[aeM,adT]
  omega
 obtain⟨W1,hW1⟩:∃W1,W1=w.drew.alloc (.cells ROW 74):=⟨_,rfl⟩
 rw[<- hW1]at hrz
 have hN:∀j,j<(n+m)*5->(W1.cell? ⟨w.heap.size,j,none⟩).isSome=true:=fun j hj=>by
  rw[hW1,World.cell?_alloc_at (w:=w.drew) ROW _ w.heap.size j rfl,aeD (by omega)];rfl
 have hNf:∀j,W1.frozen? ⟨w.heap.size,j,none⟩=false:=fun j=>by rw[hW1];exact World.frozen?_alloc_at (w:=w.drew) ROW _ w.heap.size j rfl
 have hOb:∀j v,w.cell? ⟨b,j,none⟩=some v->W1.cell? ⟨b,j,none⟩=some v:=fun j v h=>by rw[hW1,World.cell?_alloc_past (w:=w.drew) _ b j hbw];exact h
 have hOv:∀j v,w.cell? ⟨vb,j,none⟩=some v->W1.cell? ⟨vb,j,none⟩=some v:=fun j v h=>by rw[hW1,World.cell?_alloc_past (w:=w.drew) _ vb j hvw];exact h
 have hcpA:∀(W:World),(∀x,W.cell? x=W1.cell? x)->(∀x,W.frozen? x=W1.frozen? x)->∀ty dc,(Builtin.copy_ #[67,67] ty #[.slice (some ⟨w.heap.size,i*5,none⟩) (n+m-i) dc,.slice (some ⟨vb,voff,none⟩) m vc]).run Try.prog W=.ok (goInt (Nat.min m (n+m-i))) (W.setCells w.heap.size (i*5) vs):=fun W hWc hWf ty dc =>
  sJ W _ _ ty 74 5 w.heap.size (i*5) (n+m-i) dc ⟨vb,voff,none⟩ m vc vs t0 hsz (by rw[hvl];congr 1;simp only[Nat.min_def];split<;>omega)
   (fun j v hj=>by rw[agp,hWc];exact hOv _ v (hvs j v hj))
   (fun j hj=>by rw[hWc];exact hN _ (by omega)) (fun j hj=>by rw[hWf];exact hNf _) h1v
 have hGn:n+m<=G:=by rw[hG];exact grownCap_ge w _ _ _
 have hG63:G<=9223372036854775807:=by
  have:=grownCap_le_maxLen w (n+m) c 74 (by unfold maxLen;omega)
  rw[<- hG]at this
  unfold maxLen at this
  omega
 have hGi:¬(G=i):=by omega
 have hGim:¬(G=i+m):=by omega
 have hci:¬(c=i):=by omega
 have hbN:b≠w.heap.size:=by omega
 have hdl:(cs.drop (i*5)).length=(n-i)*5:=by rw[adU,hcl,Nat.sub_mul]
 have hcpB:∀(W:World),(∀x,W.cell? x=(W1.setCells w.heap.size (i*5) vs).cell? x)->(∀x,W.frozen? x=(W1.setCells w.heap.size (i*5) vs).frozen? x)->∀ty dc sc,(Builtin.copy_ #[67,67] ty #[.slice (some ⟨w.heap.size,(i+m)*5,none⟩) (n+m-(i+m)) dc,.slice (some ⟨b,off+i*5,none⟩) (n-i) sc]).run Try.prog W=.ok (goInt (Nat.min (n-i) (n+m-(i+m)))) (W.setCells w.heap.size ((i+m)*5) (cs.drop (i*5))):=fun W hWc hWf ty dc sc =>
  sJ W _ _ ty 74 5 w.heap.size ((i+m)*5) (n+m-(i+m)) dc ⟨b,off+i*5,none⟩ (n-i) sc (cs.drop (i*5)) t0 hsz (by rw[hdl];congr 1;simp only[Nat.min_def];split<;>omega)
   (fun j v hj=>by
    rw[agp,hWc,World.cell?_setCells_out _ _ _ _ _ (fun h _=>absurd h hbN),adV]
    exact hOb _ v (hcs (i*5+j) v (by rwa [adR]at hj)))
   (fun j hj=>by rw[hWc];exact isSome_setCells _ _ _ _ (fun t ht=>hN _ (by omega)) _ (hN _ (by omega)))
   (fun j hj=>by rw[hWf,World.frozen?_setCells];exact hNf _) (fun v hv=>h1c v (aei hv))
 subst hW1
 have hE1:∀x,((w.alloc (.cells ROW 74)).drew).cell? x=(w.drew.alloc (.cells ROW 74)).cell? x:=fun x=>rfl
 have hE2:∀x,((w.alloc (.cells ROW 74)).drew).frozen? x=(w.drew.alloc (.cells ROW 74)).frozen? x:=fun x=>rfl
 have hF1:∀x,(((w.alloc (.cells ROW 74)).drew.setCells w.heap.size (i*5) vs).drew).cell? x=((w.drew.alloc (.cells ROW 74)).setCells w.heap.size (i*5) vs).cell? x:=fun x=>rfl
 have hF2:∀x,(((w.alloc (.cells ROW 74)).drew.setCells w.heap.size (i*5) vs).drew).frozen? x=((w.drew.alloc (.cells ROW 74)).setCells w.heap.size (i*5) vs).frozen? x:=fun x=>rfl
 have hw1:IntKind.i64.wrap ((i:Int)+(m:Int))=(i:Int)+(m:Int):=by rw[IntKind.wrap_i64];omega
 have hb1:(0:Int)<=(i:Int)+(m:Int):=by omega
 have hin:i<=n:=by omega
 have htn:((i:Int)+(m:Int)).toNat=i+m:=by omega
 have hb3:(i:Int)<=(n:Int):=by omega
 clear hkk hik hold hROW hG hRl
 go_enter Try.func99,Try.ntmps99
 go_wp2_with (first
  | (at_builtin;refine Lib.wpList_append_run _ rfl _ _ _ _ rfl _ _ rfl rfl _ _ (hrz _) ?_)
  | (at_builtin;refine wpList_copy_runI _ rfl _ _ 67 67 rfl _ _ rfl rfl (hcpA _ hE1 hE2 _ _) ?_)
  | (at_builtin;refine wpList_copy_runI _ rfl _ _ 67 67 rfl _ _ rfl rfl (hcpB _ (fun _=>rfl) (fun _=>rfl) _ _ _) ?_))
 go_region_law_o (refine step_copy_runI rfl _ _ 67 67 rfl (.slice (some ⟨w.heap.size,(i+m)*5,none⟩) (n+m-(i+m)) (G-(i+m))) (.slice (some ⟨b,off+i*5,none⟩) (n-i) (c-i)) (by simp[Act.eval,Act.put]) (by simp[Act.eval,Act.put]) (hcpB _ hF1 hF2 3 (G-(i+m)) (c-i)) ?_)
 go_wp2
 go_ret
 exact⟨rfl,rfl⟩
end Go.Proofs.Ytchndpjlijbplaa.Am
namespace Go.Proofs.Ytchndpjlijbplaa.Am
open Go.RowKit Go.Proofs.Ytchndpjlijbplaa.P
set_option linter.unusedSimpArgs false
set_option linter.unusedVariables false
theorem YA:UX Try.prog 99 (74,5,72) where
 callable:=⟨_,Try.func99,by kernel_rfl,by kernel_rfl⟩
 pos:=by decide
 calls w go go' u u' i n m cs cs' h1 h2 hne hl hl' ho ho' hi hm hmax:=by
  simp only at *
  obtain⟨g',c',arr',rfl,rfl,b1,b2,b3,b4,b5⟩:∃g c arr,go'=some g∧u'=.slice (some ⟨g.1,g.2,none⟩) m c∧w.heap[g.1]? = some (.cells arr 74 (0,0))∧c*5+g.2=arr.size∧m<=c∧c<=maxLen∧∀(j:Nat) x,cs'[j]? = some x->arr[g.2+j]? = some x:=by
   rcases h2 with⟨g,c,arr,k⟩|⟨_,rfl,_⟩
   ·exact⟨g,c,arr,by simpa using k⟩
   ·omega
  have hvs:∀(j:Nat) v,cs'[j]? = some v->w.cell? ⟨g'.1,g'.2+j,none⟩=some v:=fun j v hj=>by simp[World.cell?,b1,b5 j v hj]
  rcases h1 with⟨g,c,arr,rfl,rfl,a1,a2,a3,a4,a5⟩|⟨rfl,rfl,rfl,A,rfl⟩
  ·have hcs:∀(j:Nat) v,cs[j]? = some v->w.cell? ⟨g.1,g.2+j,none⟩=some v:=fun j v hj=>by simp[World.cell?,a1,a5 j v hj]
   have hfz:∀j,w.frozen? ⟨g.1,j,none⟩=false:=fun j=>by simp[World.frozen?,a1]
   have hbb:g.1≠g'.1:=hne g g' rfl rfl
   have hlt:g.1<w.heap.size:=(adE.1 a1).1
   have hsp:∀j,j<(n+m)*5->n+m<=c->(w.cell? ⟨g.1,g.2+j,none⟩).isSome=true:=fun j hj hr=>by
    simp only[World.cell?,a1]
    rw[aeD (by omega)]
    rfl
   by_cases hin:i=n
   ·subst hin
    have ht:cs.take (i*5)=cs:=aeT (by omega)
    have hd:cs.drop (i*5)=[]:=afi (by omega)
    rw[ht,hd,afo]
    by_cases hroom:i+m<=c
    ·refine (Jb g.1 g.2 i c g'.1 g'.2 m c' cs' w hm hroom (by unfold maxLen at a4;omega) hl' (fun j hj=>by have:=hsp (i*5+j) (by omega) hroom;rwa [<- adV]at this) hfz hvs ho').mono fun e w' ⟨he,hw⟩ =>?_
     subst hw
     obtain⟨e1,e2,e3,e4,e5,arr2,e6,e7,e8⟩:=fG g.1 cs' (g.2+i*5) w arr a1 (by omega)
     refine⟨_,he,⟨e1,e2,e3,by omega,fun k hk hn=>e5 k (fun h=>hn ⟨g,rfl,h⟩)⟩,g,c,arr2,rfl,.inr ⟨g,rfl,rfl⟩,e6,hroom,a4,by omega,fun j x hj =>?_⟩
     rw[e8]
     by_cases hj2:j<i*5
     ·rw[if_neg (by omega)]
      rw[aee (by omega)]at hj
      exact a5 j x hj
     ·have hjl:=(ad3.1 hj).1
      rw[aeC]at hjl
      rw[aef (by omega)]at hj
      rw[if_pos (by omega)]
      rw[<- hj];congr 1;omega
    ·refine (yd (some ⟨g.1,g.2,none⟩) i c g'.1 g'.2 m c' cs cs' w hm a3 (by unfold maxLen at a4;omega) (by omega) hmax hl hl' (fun h=>by cases h) (fun a ha j v hj=>by cases ha;rw[agp];exact hcs j v hj) hvs ho').mono fun e w' ⟨he,hw⟩ =>?_
     subst hw
     have hge:=grownCap_ge w (i+m) c 74
     have hzl:=mJ (grownCap w (i+m) c 74-(i+m))
     refine⟨_,he,dq.qM ((Below.refl _ w).drew.alloc (by simp) _),(w.heap.size,0),_,_,rfl,.inl (adA _),heap_alloc_new w.drew _,hge,grownCap_le_maxLen _ _ _ _ (by unfold maxLen;omega),?_,fun j x hj =>?_⟩
     ·rw[aeg]at hzl
      simp only[aeL,aeM,aeC,hzl];omega
     ·have hjl:=(ad3.1 hj).1
      rw[aen,afc (by simpa using hjl)]
      simpa using hj
   ·have hin':i<n:=by omega
    by_cases hroom:n+m<=c
    ·refine (T3 g.1 g.2 n c i g'.1 g'.2 m c' cs cs' w hin' hm hroom (by unfold maxLen at a4;omega) (Ne.symm hbb) hl hl' hcs (fun j hj=>hsp j hj hroom) hfz hvs ho ho' 74 74 arr'.size arr.size (by simp[World.shape?,b1]) (by simp[World.shape?,a1]) (by omega) (by simp[World.frozen?,b1]) (by simp[World.frozen?,b1])).mono fun e w' ⟨he,hw⟩ =>?_
     subst hw
     obtain⟨e1,e2,e3,e4,e5,arr2,e6,e7,e8⟩:=fG g.1 (cs.drop (i*5)) (g.2+(i+m)*5) w.drew arr a1 (by simp;omega)
     obtain⟨f1,f2,f3,f4,f5,arr3,f6,f7,f8⟩:=fG g.1 cs' (g.2+i*5) _ arr2 e6 (by omega)
     refine⟨_,he,⟨f1.trans e1,f2.trans e2,f3.trans e3,by rw[f4,e4];exact adA _,fun k hk hn=>(f5 k (fun h=>hn ⟨g,rfl,h⟩)).trans (e5 k (fun h=>hn ⟨g,rfl,h⟩))⟩,g,c,arr3,rfl,.inr ⟨g,rfl,rfl⟩,f6,hroom,a4,by omega,fun j x hj =>?_⟩
     have hjl:=(ad3.1 hj).1
     simp only[aeC,adT,adU]at hjl
     rw[f8,e8]
     by_cases hj1:j<i*5
     ·rw[aee (by rw[adT];omega),adQ,if_pos hj1]at hj
      rw[if_neg (by omega),if_neg (by simp;omega)]
      exact a5 j x hj
     ·rw[aef (by rw[adT];omega),adT,aeF (by omega)]at hj
      by_cases hj2:j<(i+m)*5
      ·rw[aee (by omega)]at hj
       rw[if_pos (by omega),<- hj];congr 1;omega
      ·rw[aef (by omega)]at hj
       rw[if_neg (by omega),if_pos (by simp;omega),<- hj];congr 1;omega
    ·refine (Ws g.1 g.2 n c i g'.1 g'.2 m c' cs cs' w hin' hm a3 (by omega) hmax hl hl' hcs hvs ho ho').mono fun e w' ⟨he,hw⟩ =>?_
     subst hw
     have hge:=grownCap_ge w (n+m) c 74
     generalize hG:grownCap w (n+m) c 74=G at *
     have hz1:=mJ (n+m-i)
     have hz2:=mJ (G-(n+m))
     rw[aeg]at hz1 hz2
     generalize hR:((cs.take (i*5)).toArray++Builtin.zeroCells ly.cells (n+m-i)++Builtin.zeroCells ly.cells (G-(n+m)))=R
     have hRs:R.size=G*5:=by subst hR;simp only[aeL,aeM,adT,hz1,hz2];omega
     have hR0:∀j,j<i*5->R[j]? = cs[j]?:=fun j hj=>by
      subst hR
      rw[Array.append_assoc,afc (by simp;omega)]
      simp[adQ,hj]
     have hw0:(w.alloc (.cells R 74)).drew.heap[w.heap.size]? = some (.cells R 74 (0,0)):=heap_alloc_new w _
     obtain⟨e1,e2,e3,e4,e5,arr2,e6,e7,e8⟩:=fG w.heap.size cs' (i*5) _ R hw0 (by omega)
     obtain⟨f1,f2,f3,f4,f5,arr3,f6,f7,f8⟩:=fG w.heap.size (cs.drop (i*5)) ((i+m)*5) (((w.alloc (.cells R 74)).drew.setCells w.heap.size (i*5) cs').drew) arr2 e6 (by simp;omega)
     refine⟨_,he,⟨f1.trans e1,f2.trans e2,f3.trans e3,?_,fun k hk hn =>?_⟩,(w.heap.size,0),G,arr3,rfl,.inl (adA _),f6,hge,hG ▸ grownCap_le_maxLen _ _ _ _ (by unfold maxLen;omega),by simp only;omega,fun j x hj =>?_⟩
     ·rw[f4]
      show _<=((w.alloc (.cells R 74)).drew.setCells w.heap.size (i*5) cs').heap.size
      rw[e4]
      show _<=(w.alloc (.cells R 74)).heap.size
      simp
     ·rw[f5 k (by omega)]
      show ((w.alloc (.cells R 74)).drew.setCells w.heap.size (i*5) cs').heap[k]? = _
      rw[e5 k (by omega)]
      exact Below.heap_alloc w _ k hk
     ·have hjl:=(ad3.1 hj).1
      simp only[aeC,adT,adU]at hjl
      rw[aen,f8,e8]
      by_cases hj1:j<i*5
      ·rw[aee (by rw[adT];omega),adQ,if_pos hj1]at hj
       rw[if_neg (by omega),if_neg (by omega),hR0 j hj1,hj]
      ·rw[aef (by rw[adT];omega),adT,aeF (by omega)]at hj
       by_cases hj2:j<(i+m)*5
       ·rw[aee (by omega)]at hj
        rw[if_neg (by omega),if_pos (by omega),<- hj]
       ·rw[aef (by omega)]at hj
        rw[if_pos (by simp;omega),<- hj];congr 1;omega
  ·have hi0:i=0:=by omega
   subst hi0
   refine (yd A 0 0 g'.1 g'.2 m c' [] cs' w hm (adA _) (by omega) (by omega) (by omega) rfl hl' (fun _=>rfl) (fun a ha j v hj=>by simp at hj) hvs ho').mono fun e w' ⟨he,hw⟩ =>?_
   subst hw
   have hge:=grownCap_ge w (0+m) 0 74
   have hzl:=mJ (grownCap w (0+m) 0 74-(0+m))
   refine⟨_,he,dq.qM ((Below.refl _ w).drew.alloc (by simp) _),(w.heap.size,0),_,_,rfl,.inl (adA _),heap_alloc_new w.drew _,hge,grownCap_le_maxLen _ _ _ _ (by unfold maxLen;omega),?_,fun j x hj =>?_⟩
   ·rw[aeg]at hzl
    simp only[aeL,aeM,List.nil_append,hzl];omega
   ·simp only[afm,List.take_nil,List.drop_nil,List.nil_append,afo]at hj
    have hjl:=(ad3.1 hj).1
    rw[aen,afc (by simpa using hjl)]
    simpa using hj
theorem Yl {α:Type} (E:iC α) (hE:E.size=5):b6 Try.prog 70 (ZO 74 E (jh (aI .i64) (fU (aI .i64))) (fun (l:List α) (x:Int×Int)=>VM l x.1 x.2)) where
 callable:=⟨_,Try.func70,by kernel_rfl,by kernel_rfl⟩
 calls lent ds rk out hg:=by
  obtain⟨pre,l,post,a,r,rfl,rfl,hr,rfl,rfl⟩:=Ng hg
  obtain⟨ai,aj⟩:=a
  unfold VM at hr
  split at hr
  rotate_left
  ·cases hr
  rename_i hcond
  obtain⟨hi0,hij,hjn,hlen⟩:=hcond
  simp only at hi0 hij hjn
  cases hr
  intro w M go u0 vs hM hgoM hz hmp hrow hlv hargs
  have hvs:vs = #[.int .i64 ai,.int .i64 aj]:=by
   have h1:vs.size=2:=hargs.size
   have e0:=U5 (hargs.at_ 0 (.int .i64 ai) rfl)
   have e1:=U5 (hargs.at_ 1 (.int .i64 aj) rfl)
   apply Array.ext
   ·simp[h1]
   ·intro k h2 h3
    have:k=0∨k=1:=by omega
    rcases this with rfl|rfl
    ·simpa [adF,aeD h2] using e0
    ·simpa [adF,aeD h2] using e1
  subst hvs
  simp only
  obtain⟨i,rfl⟩:∃i:Nat,ai=(i:Int):=⟨ai.toNat,by omega⟩
  obtain⟨j,rfl⟩:∃j:Nat,aj=(j:Int):=⟨aj.toNat,by omega⟩
  simp only[Int.toNat_natCast]
  have hijn:i<=j:=by omega
  have hjl:j<=l.length:=by omega
  have hnl:(l.take i++l.drop j).length=i+(l.length-j):=by rw[aeC,adT,adU];omega
  have hlE:(ae E l).length=l.length*5:=by rw[bN,hE]
  have henc:ae E (l.take i++l.drop j)=(ae E l).take (i*5)++(ae E l).drop (j*5):=by rw[fB,<- hE,ew,ow]
  rcases hlv.2 ⟨0,0,[],false,false,false⟩ rfl rfl with⟨g,o',c,N,t,k0,k1,k2,k3,k4,k5⟩|⟨k0,hn0,A,k1⟩
  ·cases k0
   subst k1
   rw[hE]at k2
   obtain⟨cs,h1,h2,h3⟩:=hrow
   simp only[aeC,hlE]at h2
   have hN:N=cs.size:=by
    simp only[World.shape?,h1,adJ,Prod.mk.injEq]at k5
    exact k5.2.symm
   have hc63:c<=9223372036854775807:=by unfold maxLen at k4;omega
   by_cases heq:i=j
   ·subst heq
    have hsame:l.take i++l.drop i=l:=afl i l
    rw[hsame]
    refine (KY (some ⟨g.1,o',none⟩) l.length c i w hjl k3 hc63 (fun h=>by cases h)).mono fun e w' ⟨he,hw⟩ =>?_
    subst hw
    refine⟨_,he,⟨rfl,rfl,rfl,adA _,fun k _ _=>rfl⟩,trivial,?_⟩
    by_cases hcc:0<c∨pre.length=0
    ·obtain⟨k6,k7⟩:=k2 hcc
     refine .inl ⟨(g.1,o'),c,cs,rfl,.inr ⟨g,rfl,rfl⟩,h1,k3,k4,by rw[hE];omega,?_,fun k d hk =>?_⟩
     ·simp only;rw[hlE];omega
     ·have hkl:=(ad3.1 hk).1
      have:=h3 (pre.length+k) d (by rw[aef (by omega),aeQ,aee hkl];exact hk)
      simp only
      rw[k6,adV]
      exact⟨this.1,this.2.less fun b hb=>hb.imp id fun h=>⟨g,rfl,h⟩⟩
    ·have:c=0:=by omega
     subst this
     have hl0:l=[]:=aeJ (by omega)
     subst hl0
     exact .inr ⟨rfl,rfl,_,rfl⟩
   ·have hlt:i<j:=by omega
    obtain⟨k6,k7⟩:=k2 (.inl (by omega))
    subst k6
    obtain⟨zy,hvals⟩:∃zy:List Value,zy=(List.range (l.length*5)).map fun k=>cs.getD (g.2+(pre.length+k)) undef:=⟨_,rfl⟩
    have hvl:zy.length=l.length*5:=by rw[hvals];simp
    have hvk:∀k,k<l.length*5->zy[k]? = some (cs.getD (g.2+(pre.length+k)) undef):=fun k hk=>by rw[hvals,adx,List.getElem?_range hk];rfl
    have hrel:∀k d,(ae E l)[k]? = some d->aV d=true∧RP w (fun b=>M b∨tf (some g) b) d (cs.getD (g.2+(pre.length+k)) undef):=fun k d hk=>by
     have hkl:=(ad3.1 hk).1
     exact h3 (pre.length+k) d (by rw[aef (by omega),aeQ,aee hkl];exact hk)
    have hcell:∀k v,zy[k]? = some v->w.cell? ⟨g.1,g.2+pre.length+k,none⟩=some v:=fun k v hk=>by
     have hkl:=(ad3.1 hk).1
     rw[hvk k (by omega)]at hk
     have:=bB h1 (j:=g.2+pre.length+k) (by omega)
     rw[this,adV]
     exact hk
    have hone:∀v∈zy,v.oneCell'=true:=fun v hv=>by
     obtain⟨k,hk⟩:=adW hv
     have hkl:=(ad3.1 hk).1
     rw[hvk k (by omega)]at hk
     obtain⟨p1,p2⟩:=hrel k _ (adN (by omega))
     have:=p2.vC p1
     rwa [Option.some.inj hk]at this
    refine (VO g.1 (g.2+pre.length) l.length c i j zy w hvl hcell (fun k=>by simp[World.frozen?,h1]) hone k3 hc63 hlt hjl).mono fun e w' ⟨he,hw⟩ =>?_
    have hzl:=mJ (l.length-(i+(l.length-j)))
    have hdl:(zy.drop (j*5)).length=(l.length-j)*5:=by rw[adU,hvl,Nat.sub_mul]
    obtain⟨e1,e2,e3,e4,e5,arr2,e6,e7,e8⟩:=fG g.1 (zy.drop (j*5)) (g.2+pre.length+i*5) w.drew cs h1 (by omega)
    obtain⟨f1,f2,f3,f4,f5,arr3,f6,f7,f8⟩:=fG g.1 (Builtin.zeroCells ly.cells (l.length-(i+(l.length-j)))).toList (g.2+pre.length+(i+(l.length-j))*5) _ arr2 e6 (by omega)
    rw[<- hw]at f1 f2 f3 f4 f5 f6
    have hbey:dq (tf (some g)) w w':=⟨f1.trans e1,f2.trans e2,f3.trans e3,by rw[f4,e4];exact adA _,fun k hk hn=>(f5 k (fun h=>hn ⟨g,rfl,h⟩)).trans (e5 k (fun h=>hn ⟨g,rfl,h⟩))⟩
    refine⟨_,he,hbey,trivial,.inl ⟨(g.1,g.2+pre.length),c,arr3,by rw[hnl],.inr ⟨g,rfl,rfl⟩,f6,by rw[hnl];omega,k4,by rw[hE];simp only;omega,?_,fun k d hk =>?_⟩⟩
    ·simp only;rw[bN,hE,hnl];omega
    ·have hkl:=(ad3.1 hk).1
     rw[bN,hE,hnl]at hkl
     rw[henc]at hk
     have hval:∀k':Nat,(ae E l)[k']? = some d->zy[k']? = arr3[g.2+pre.length+k]?->aV d=true∧RP w' (fun b=>M b∨b=g.1) d (arr3.getD (g.2+pre.length+k) undef):=by
      intro k' hk' hv
      have hkl':=(ad3.1 hk').1
      obtain⟨p1,p2⟩:=hrel k' d hk'
      rw[hvk k' (by omega)]at hv
      refine⟨p1,?_⟩
      rw[adF,<- hv]
      refine p2.keep fun b q1 q2=>⟨adD q1 hbey.size,?_,hbey.block b q1 (fun hn=>q2 (.inr hn))⟩
      rintro (hb|hb)
      ·exact q2 (.inl hb)
      ·exact q2 (.inr ⟨g,rfl,hb⟩)
     simp only
     by_cases hk1:k<i*5
     ·rw[aee (by rw[adT];omega),adQ,if_pos hk1]at hk
      refine hval k hk ?_
      rw[f8,if_neg (by omega),e8,if_neg (by omega),hvk k (by omega),adF,adV,aeD (show g.2+(pre.length+k)<cs.size by omega)]
      rfl
     ·rw[aef (by rw[adT];omega),adT,aeF (by omega),adR]at hk
      refine hval (j*5+(k-i*5)) hk ?_
      rw[f8,if_neg (by omega),e8,if_pos (by omega),adR]
      congr 1;omega
  ·subst k1
   have hl0:l=[]:=aeJ hn0
   subst hl0
   simp only[List.length_nil]at hjl
   obtain rfl:j=0:=by omega
   obtain rfl:i=0:=by omega
   refine (KY A 0 0 0 w (adA _) (adA _) (by decide) (fun _=>rfl)).mono fun e w' ⟨he,hw⟩ =>?_
   subst hw
   exact⟨_,he,⟨rfl,rfl,rfl,adA _,fun k _ _=>rfl⟩,trivial,.inr ⟨rfl,rfl,_,rfl⟩⟩
end Go.Proofs.Ytchndpjlijbplaa.Am
namespace Go.Proofs.Ytchndpjlijbplaa.P
open Go.RowKit
set_option linter.unusedVariables false
structure al where
 ag:Int
 aa:(List Int)
structure ak where
 aH:al
 aK:al
structure dy where
 cR:Int
 kM:Int
 ba:ak
structure bY where
 aD:Int
 av:(List dy)
structure dL where
 ka:Int
 dD:ak
structure aw where
 aO:ak
 bk:(List dL)
def uv (p0:(List Int)):(Int)->Option ((Int)⊕((Int)))
 | s3a =>
  if decide (s3a>0) then
   (P.idx p0 (IntKind.i64.wrap (s3a-1))).bind fun x6 =>
   if (x6==0) then
    some (.inl (IntKind.i64.wrap (s3a-1)))
   else
    some (.inr s3a)
  else
   some (.inr s3a)
def gG (p0:(List Int)):Option ((List Int)) :=
 (aY (uv p0) (p0.length:Int)).bind fun s3ax =>
 (A9 p0 0 s3ax).bind fun x8 =>
 (mo 8 [] x8).bind fun _ =>
 some x8
def fO (p0:Int) (p1:(List Int)):Option (al) :=
 (gG p1).bind fun r1 =>
 if ((r1.length:Int)==0) then
  some (al.mk 0 ([]))
 else
  some (al.mk p0 r1)
def vL:(Int×(List Int))->Option ((Int×(List Int))⊕(((List Int))))
 | (s0b,l4b) =>
  if (s0b != 0) then
   (Dl .i64 s0b 1048576).bind fun x17 =>
   if decide (x17<0) then
    (mo 8 l4b [IntKind.i64.wrap (0-x17)]).bind fun x20 =>
    (y5 .i64 s0b 1048576).bind fun x22 =>
    some (.inl (x22,x20))
   else
    (mo 8 l4b [x17]).bind fun x24 =>
    (y5 .i64 s0b 1048576).bind fun x26 =>
    some (.inl (x26,x24))
  else
   some (.inr l4b)
def sB (p0:Int):Option (al) :=
 if (p0==0) then
  some (al.mk 0 ([]))
 else
  (if decide (p0<0) then
   some (-1)
  else
   some 1).bind fun s3j1 =>
  (aY (vL) (p0,[])).bind fun l4bx =>
  (fO s3j1 l4bx).bind fun r28 =>
  some r28
def oh (p0:al):(Int)->Option ((Int)⊕((Unit)⊕(Bool)))
 | s3a =>
  if decide (s3a<(p0.aa.length:Int)) then
   (P.idx p0.aa s3a).bind fun x7 =>
   if decide (x7<0) then
    some (.inr (.inr false))
   else
    if decide (x7>=1048576) then
     some (.inr (.inr false))
    else
     some (.inl (IntKind.i64.wrap (s3a+1)))
  else
   some (.inr (.inl ()))
def du (p0:al):Option (Bool) :=
 (aY (oh p0) 0).bind fun q=>match q with
 | (.inl _) =>
  (if decide (p0.ag<(-1)) then
   some true
  else
   if decide (p0.ag>1) then
    some true
   else
    some (!(((p0.aa.length:Int)==0)==(p0.ag==0)))).bind fun s44j2 =>
  if s44j2 then
   some false
  else
   if ((p0.aa.length:Int)==0) then
    some true
   else
    (P.idx p0.aa (IntKind.i64.wrap ((p0.aa.length:Int)-1))).bind fun x13 =>
    some (x13 != 0)
 | (.inr ra) =>
  some ra
def qe (p0:al):Option (al) :=
 (du p0).bind fun r1 =>
 if (!r1) then
  some (al.mk 0 ([]))
 else
  (fO (IntKind.i64.wrap (0-p0.ag)) p0.aa).bind fun r3 =>
  some r3
def gn (p0:(List Int)) (p1:Int):Option (Int) :=
 if decide (p1<(p0.length:Int)) then
  (P.idx p0 p1).bind fun x2 =>
  some x2
 else
  some 0
def ou (p0:(List Int)) (p1:(List Int)) (s6a:Int):(Int×Int×(List Int))->Option ((Int×Int×(List Int))⊕(((List Int))))
 | (s7e,s8e,l5e) =>
  (if decide (s8e<(p1.length:Int)) then
   some true
  else
   some (decide (s7e>0))).bind fun s29j7 =>
  if s29j7 then
   (P.idx l5e (IntKind.i64.wrap (s6a+s8e))).bind fun x43 =>
   (P.idx p0 s6a).bind fun x44 =>
   (gn p1 s8e).bind fun r45 =>
   (Dl .i64 (IntKind.i64.wrap ((IntKind.i64.wrap (x43+(IntKind.i64.wrap (x44*r45))))+s7e)) 1048576).bind fun x46 =>
   (y5 .i64 (IntKind.i64.wrap ((IntKind.i64.wrap (x43+(IntKind.i64.wrap (x44*r45))))+s7e)) 1048576).bind fun x49 =>
   some (.inl (x49,IntKind.i64.wrap (s8e+1),(l5e.set (IntKind.i64.wrap (s6a+s8e)).toNat x46)))
  else
   some (.inr l5e)
def ot (p0:(List Int)) (p1:(List Int)):(Int×(List Int))->Option ((Int×(List Int))⊕(((List Int))))
 | (s6a,l5a) =>
  if decide (s6a<(p0.length:Int)) then
   (aY (ou p0 p1 s6a) (0,0,l5a)).bind fun l5ex =>
   some (.inl (IntKind.i64.wrap (s6a+1),l5ex))
  else
   some (.inr l5a)
def lr (p0:(List Int)) (p1:(List Int)):Option ((List Int)) :=
 (EC 8 (IntKind.i64.wrap ((p0.length:Int)+(p1.length:Int))) (IntKind.i64.wrap ((p0.length:Int)+(p1.length:Int))) 0).bind fun x1 =>
 (aY (ot p0 p1) (0,x1)).bind fun l5ax =>
 (gG l5ax).bind fun r52 =>
 some r52
def qf (p0:(List Int)) (p1:(List Int)):(Int)->Option ((Int)⊕((Unit)⊕(Bool)))
 | s5a =>
  if decide (s5a>=0) then
   (gn p0 s5a).bind fun r7 =>
   (gn p1 s5a).bind fun r8 =>
   if (r7 != r8) then
    some (.inr (.inr (decide (r7<r8))))
   else
    some (.inl (IntKind.i64.wrap (s5a-1)))
  else
   some (.inr (.inl ()))
def nA (p0:(List Int)) (p1:(List Int)):Option (Bool) :=
 (aY (qf p0 p1) (IntKind.i64.wrap ((if (p1.length:Int)>(p0.length:Int) then (p1.length:Int) else (p0.length:Int))-1))).bind fun q=>match q with
 | (.inl _) =>
  some false
 | (.inr ra) =>
  some ra
def oo (p0:(List Int)) (p1:(List Int)):(Int×Int×(List Int))->Option ((Int×Int×(List Int))⊕(((List Int))))
 | (s6a,s7a,l5a) =>
  if decide (s7a<(p0.length:Int)) then
   (P.idx p0 s7a).bind fun x11 =>
   (gn p1 s7a).bind fun r12 =>
   if decide ((IntKind.i64.wrap ((IntKind.i64.wrap (x11-r12))-s6a))<0) then
    (mo 8 l5a [IntKind.i64.wrap ((IntKind.i64.wrap ((IntKind.i64.wrap (x11-r12))-s6a))+1048576)]).bind fun x14 =>
    some (.inl (1,IntKind.i64.wrap (s7a+1),x14))
   else
    (mo 8 l5a [IntKind.i64.wrap ((IntKind.i64.wrap (x11-r12))-s6a)]).bind fun x16 =>
    some (.inl (0,IntKind.i64.wrap (s7a+1),x16))
  else
   some (.inr l5a)
def lq (p0:(List Int)) (p1:(List Int)):Option ((List Int)) :=
 (aY (oo p0 p1) (0,0,[])).bind fun l5ax =>
 (gG l5ax).bind fun r18 =>
 some r18
def nC (p1:(List Int)) (r34:(List Int)):(Int×Int)->Option ((Int×Int)⊕((Int)))
 | (s9c,s10c) =>
  if decide ((IntKind.i64.wrap (s10c-s9c))>1) then
   (y5 .i64 (IntKind.i64.wrap (s9c+s10c)) 2).bind fun x44 =>
   (lr p1 ([x44])).bind fun r47 =>
   (nA r34 r47).bind fun r48 =>
   if r48 then
    some (.inl (s9c,x44))
   else
    some (.inl (x44,s10c))
  else
   some (.inr s9c)
def qg (p0:(List Int)) (p1:(List Int)):((List Int)×Int×(List Int))->Option (((List Int)×Int×(List Int))⊕(((List Int)×(List Int))))
 | (s7a,s8a,l6a) =>
  if decide (s8a>=0) then
   (P.idx p0 s8a).bind fun x31 =>
   (mo 8 [x31] s7a).bind fun x32 =>
   (gG x32).bind fun r34 =>
   (aY (nC p1 r34) (0,1048576)).bind fun s9cx =>
   (P.idx l6a s8a).bind fun x50 =>
   (gG ([s9cx])).bind fun r53 =>
   (lr p1 r53).bind fun r54 =>
   (lq r34 r54).bind fun r55 =>
   some (.inl (r55,IntKind.i64.wrap (s8a-1),(l6a.set (s8a).toNat s9cx)))
  else
   some (.inr (s7a,l6a))
def nB (p0:(List Int)) (p1:(List Int)):Option ((List Int)×(List Int)) :=
 (EC 8 (p0.length:Int) (p0.length:Int) 0).bind fun x1 =>
 (aY (qg p0 p1) ([],IntKind.i64.wrap ((p0.length:Int)-1),x1)).bind fun q=>match q with
 | (s7ax,l6ax) =>
  (gG l6ax).bind fun r56 =>
  some (r56,s7ax)
def pr:((List Int)×(List Int))->Option (((List Int)×(List Int))⊕(((List Int))))
 | (s6b,s7b) =>
  if decide ((s7b.length:Int)>0) then
   (nB s6b s7b).bind fun r8 =>
   some (.inl (s7b,r8.2))
  else
   some (.inr s6b)
def og (p0:al) (p1:al):Option (al×Int) :=
 (du p0).bind fun r1 =>
 (if (!r1) then
  some true
 else
  (du p1).bind fun r11 =>
  some (!r11)).bind fun s17j1 =>
 if s17j1 then
  some ((al.mk 0 ([])),1)
 else
  (aY (pr) (p0.aa,p1.aa)).bind fun s6bx =>
  (fO 1 s6bx).bind fun r9 =>
  some (r9,0)
def AE (p0:(List Int)) (p1:(List Int)):(Int×Int×(List Int))->Option ((Int×Int×(List Int))⊕(((List Int))))
 | (s6a,s7a,l5a) =>
  (if decide (s7a<(p0.length:Int)) then
   some true
  else
   if decide (s7a<(p1.length:Int)) then
    some true
   else
    some (decide (s6a>0))).bind fun s22j3 =>
  if s22j3 then
   (gn p0 s7a).bind fun r16 =>
   (gn p1 s7a).bind fun r17 =>
   (Dl .i64 (IntKind.i64.wrap ((IntKind.i64.wrap (r16+r17))+s6a)) 1048576).bind fun x18 =>
   (mo 8 l5a [x18]).bind fun x20 =>
   (y5 .i64 (IntKind.i64.wrap ((IntKind.i64.wrap (r16+r17))+s6a)) 1048576).bind fun x22 =>
   some (.inl (x22,IntKind.i64.wrap (s7a+1),x20))
  else
   some (.inr l5a)
def uu (p0:(List Int)) (p1:(List Int)):Option ((List Int)) :=
 (aY (AE p0 p1) (0,0,[])).bind fun l5ax =>
 (gG l5ax).bind fun r26 =>
 some r26
def mZ (p0:al) (p1:al):Option (al×al×Int) :=
 (du p0).bind fun r1 =>
 (if (!r1) then
  some true
 else
  (du p1).bind fun r17 =>
  some (!r17)).bind fun s16j1 =>
 if s16j1 then
  some ((al.mk 0 ([])),(al.mk 0 ([])),1)
 else
  if (p1.ag==0) then
   some ((al.mk 0 ([])),(al.mk 0 ([])),15)
  else
   (nB p0.aa p1.aa).bind fun r5 =>
   (if decide ((IntKind.i64.wrap (p0.ag*p1.ag))>=0) then
    some true
   else
    some ((r5.2.length:Int)==0)).bind fun s42j2 =>
   if s42j2 then
    (fO (IntKind.i64.wrap (p0.ag*p1.ag)) r5.1).bind fun r8 =>
    (fO p0.ag r5.2).bind fun r9 =>
    some (r8,r9,0)
   else
    (uu r5.1 ([1])).bind fun r11 =>
    (fO (-1) r11).bind fun r12 =>
    (lq p1.aa r5.2).bind fun r13 =>
    (fO p1.ag r13).bind fun r14 =>
    some (r12,r14,0)
def sC (p0:al) (p1:al):Option (ak×Int) :=
 (du p0).bind fun r1 =>
 (if (!r1) then
  some true
 else
  (du p1).bind fun r13 =>
  some (!r13)).bind fun s21j1 =>
 if s21j1 then
  some ((ak.mk (al.mk 0 ([])) (al.mk 0 ([]))),1)
 else
  if (p1.ag==0) then
   some ((ak.mk (al.mk 0 ([])) (al.mk 0 ([]))),15)
  else
   (if decide (p1.ag<0) then
    (qe p0).bind fun r10 =>
    (qe p1).bind fun r11 =>
    some (r10.ag,r10.aa,r11.ag,r11.aa)
   else
    some (p0.ag,p0.aa,p1.ag,p1.aa)).bind fun q=>match q with
   | (r2_0j2,r2_1j2,r3_0j2,r3_1j2) =>
    (og (al.mk r2_0j2 r2_1j2) (al.mk r3_0j2 r3_1j2)).bind fun r6 =>
    (mZ (al.mk r2_0j2 r2_1j2) r6.1).bind fun r7 =>
    (mZ (al.mk r3_0j2 r3_1j2) r6.1).bind fun r8 =>
    some ((ak.mk r7.1 r8.1),0)
def uw (p0:Int) (p1:Int):Option (ak×Int) :=
 (sB p0).bind fun r1 =>
 (sB p1).bind fun r2 =>
 (sC r1 r2).bind fun r3 =>
 some (r3.1,r3.2)
def kj (p0:Int) (p1:Int) (p2:Int) (p3:Int):Option (dy) :=
 (uw p2 p3).bind fun r1 =>
 some (dy.mk p0 p1 r1.1)
def ov (p0:Int):Option (ak) :=
 (uw p0 1).bind fun r1 =>
 some r1.1
def Aj (p0:(List Int)):(Int×(List ak))->Option ((Int×(List ak))⊕(((List ak))))
 | (s4a,l3a) =>
  if decide (s4a<(p0.length:Int)) then
   (P.idx p0 s4a).bind fun x8 =>
   (ov x8).bind fun r9 =>
   (mo 64 l3a [r9]).bind fun x10 =>
   some (.inl (IntKind.i64.wrap (s4a+1),x10))
  else
   some (.inr l3a)
def ki (p0:(List Int)):Option ((List ak)) :=
 (aY (Aj p0) (0,[])).bind fun l3ax =>
 some l3ax
def gM (p0:Int) (p1:Int) (p2:Int):Option (Bool) :=
 if decide (p0>=p1) then
  some (decide (p0<=p2))
 else
  some false
def nT (p0:al):(Int)->Option ((Int)⊕((Unit)⊕(Bool)))
 | s12a =>
  if decide (s12a<(p0.aa.length:Int)) then
   (P.idx p0.aa s12a).bind fun x7 =>
   if decide (x7<0) then
    some (.inr (.inr false))
   else
    if decide (x7>1048575) then
     some (.inr (.inr false))
    else
     some (.inl (IntKind.i64.wrap (s12a+1)))
  else
   some (.inr (.inl ()))
def cv (p0:al):Option (Bool) :=
 (aY (nT p0) 0).bind fun q=>match q with
 | (.inl _) =>
  if ((p0.aa.length:Int)==0) then
   some (p0.ag==0)
  else
   if (p0.ag==1) then
    (P.idx p0.aa (IntKind.i64.wrap ((p0.aa.length:Int)-1))).bind fun x12 =>
    some (x12 != 0)
   else
    if (p0.ag==(-1)) then
     (P.idx p0.aa (IntKind.i64.wrap ((p0.aa.length:Int)-1))).bind fun x14 =>
     some (x14 != 0)
    else
     some false
 | (.inr ra) =>
  some ra
def dR (p0:Bool) (p1:al):Option (al×Int) :=
 if (!p0) then
  some ((al.mk 0 ([])),1)
 else
  some (p1,0)
def cH (p0:(List Int)):Option (List Int):=mo 8 [] p0
def mq (p0:Int):Option (Bool) :=
 some (p0 != p0)
def eA (p0:Int) (p1:Int):Option (Int) :=
 (mq p0).bind fun r1 =>
 (mq p1).bind fun r2 =>
 if r1 then
  if r2 then
   some 0
  else
   some (-1)
 else
  if r2 then
   some 1
  else
   if decide (p0<p1) then
    some (-1)
   else
    if decide (p0>p1) then
     some 1
    else
     some 0
def lF (p0:(List Int)) (p1:(List Int)):(Int)->Option ((Int)⊕((Unit)⊕(Int)))
 | s5a =>
  if decide (s5a>=0) then
   (P.idx p0 s5a).bind fun x10 =>
   (P.idx p1 s5a).bind fun x11 =>
   if (x10 != x11) then
    (eA x10 x11).bind fun r13 =>
    some (.inr (.inr r13))
   else
    some (.inl (IntKind.i64.wrap (s5a-1)))
  else
   some (.inr (.inl ()))
def eT (p0:(List Int)) (p1:(List Int)):Option (Int) :=
 if ((p0.length:Int) != (p1.length:Int)) then
  (eA (p0.length:Int) (p1.length:Int)).bind fun r2 =>
  some r2
 else
  (aY (lF p0 p1) (IntKind.i64.wrap ((p0.length:Int)-1))).bind fun q=>match q with
  | (.inl _) =>
   some 0
  | (.inr ra) =>
   some ra
def ld (p0:(List Int)):(Int)->Option ((Int)⊕((Int)))
 | s3a =>
  if decide (s3a>0) then
   (P.idx p0 (IntKind.i64.wrap (s3a-1))).bind fun x6 =>
   if (x6==0) then
    some (.inl (IntKind.i64.wrap (s3a-1)))
   else
    some (.inr s3a)
  else
   some (.inr s3a)
def dz (p0:(List Int)):Option ((List Int)) :=
 (aY (ld p0) (p0.length:Int)).bind fun s3ax =>
 (A9 p0 0 s3ax).bind fun x8 =>
 some x8
def nV (p0:(List Int)) (p1:Int):(Int×Int×(List Int))->Option ((Int×Int×(List Int))⊕((Int×(List Int))))
 | (s7a,s8a,l6a) =>
  if decide (s8a>=0) then
   (Fg .i64 s7a 20).bind fun x15 =>
   (P.idx p0 s8a).bind fun x17 =>
   (y5 .i64 (kf .or .i64 x15 x17) p1).bind fun x18 =>
   (P.idx l6a s8a).bind fun x20 =>
   (Dl .i64 (kf .or .i64 x15 x17) p1).bind fun x22 =>
   some (.inl (x22,IntKind.i64.wrap (s8a-1),(l6a.set (s8a).toNat x18)))
  else
   some (.inr (s7a,l6a))
def k9 (p0:(List Int)) (p1:Int):Option ((List Int)×Int) :=
 (EC 8 (p0.length:Int) (p0.length:Int) 0).bind fun x1 =>
 (aY (nV p0 p1) (0,IntKind.i64.wrap ((p0.length:Int)-1),x1)).bind fun q=>match q with
 | (s7ax,l6ax) =>
  (dz l6ax).bind fun r24 =>
  some (r24,s7ax)
def rG (p1:(List Int)) (s20a:Int) (x22:Int):(Int×Int×(List Int))->Option ((Int×Int×(List Int))⊕((Int×(List Int))))
 | (s8c,s27c,l5c) =>
  if decide (s27c<(p1.length:Int)) then
   (P.idx p1 s27c).bind fun x31 =>
   (P.idx l5c (IntKind.i64.wrap (s20a+s27c))).bind fun x32 =>
   (xm .i64 (IntKind.i64.wrap ((IntKind.i64.wrap (x32+(IntKind.i64.wrap (x22*x31))))+s8c)) 20).bind fun x33 =>
   some (.inl (x33,IntKind.i64.wrap (s27c+1),(l5c.set (IntKind.i64.wrap (s20a+s27c)).toNat (kf .and .i64 (IntKind.i64.wrap ((IntKind.i64.wrap (x32+(IntKind.i64.wrap (x22*x31))))+s8c)) 1048575))))
  else
   some (.inr (s8c,l5c))
def rF (p0:(List Int)) (p1:(List Int)):(Int×(List Int))->Option ((Int×(List Int))⊕(((List Int))))
 | (s20a,l5a) =>
  if decide (s20a<(p0.length:Int)) then
   (P.idx p0 s20a).bind fun x22 =>
   (aY (rG p1 s20a x22) (0,0,l5a)).bind fun q=>match q with
   | (s8cx,l5cx) =>
    (P.idx l5cx (IntKind.i64.wrap (s20a+(p1.length:Int)))).bind fun x36 =>
    some (.inl (IntKind.i64.wrap (s20a+1),(l5cx.set (IntKind.i64.wrap (s20a+(p1.length:Int))).toNat (IntKind.i64.wrap (x36+s8cx)))))
  else
   some (.inr l5a)
def nU (p0:(List Int)) (p1:(List Int)):Option ((List Int)) :=
 (EC 8 (IntKind.i64.wrap ((p0.length:Int)+(p1.length:Int))) (IntKind.i64.wrap ((p0.length:Int)+(p1.length:Int))) 0).bind fun x1 =>
 (aY (rF p0 p1) (0,x1)).bind fun l5ax =>
 (dz l5ax).bind fun r39 =>
 some r39
def kv (p0:(List Int)) (p1:(List Int)) (p2:Int):(Int×Int×(List Int))->Option ((Int×Int×(List Int))⊕((Int×(List Int))))
 | (s7a,s14a,l0a) =>
  if decide (s14a<((p0).length:Int)) then
   (P.idx l0a s14a).bind fun x11 =>
   (if decide (s14a<(p1.length:Int)) then
    (P.idx p1 s14a).bind fun x17 =>
    some (IntKind.i64.wrap ((IntKind.i64.wrap (x11-s7a))-(IntKind.i64.wrap (p2*x17))))
   else
    some (IntKind.i64.wrap (x11-s7a))).bind fun s9j3 =>
   (xm .i64 s9j3 20).bind fun x14 =>
   some (.inl (IntKind.i64.wrap (0-x14),IntKind.i64.wrap (s14a+1),(l0a.set (s14a).toNat (kf .and .i64 s9j3 1048575))))
  else
   some (.inr (s7a,l0a))
def kx (p1:(List Int)) (l0ax:(List Int)):(Int×Int×(List Int))->Option ((Int×Int×(List Int))⊕(((List Int))))
 | (s10d,s49d,l0d) =>
  if decide (s49d<((l0ax).length:Int)) then
   (P.idx l0d s49d).bind fun x29 =>
   (if decide (s49d<(p1.length:Int)) then
    (P.idx p1 s49d).bind fun x35 =>
    some (IntKind.i64.wrap ((IntKind.i64.wrap (s10d+x29))+x35))
   else
    some (IntKind.i64.wrap (s10d+x29))).bind fun s10j6 =>
   (xm .i64 s10j6 20).bind fun x32 =>
   some (.inl (x32,IntKind.i64.wrap (s49d+1),(l0d.set (s49d).toNat (kf .and .i64 s10j6 1048575))))
  else
   some (.inr l0d)
def oO (p0:(List Int)) (p1:(List Int)) (p2:Int):Option ((List Int)×(Int)) :=
 (aY (kv p0 p1 p2) (0,0,p0)).bind fun q=>match q with
 | (s7ax,l0ax) =>
  if (s7ax==0) then
   some (l0ax,p2)
  else
   (aY (kx p1 l0ax) (0,0,l0ax)).bind fun l0dx =>
   some (l0dx,IntKind.i64.wrap (p2-1))
def fl (p0:(List Int)) (p1:(List Int)) (p2:Int):Option ((List Int)×(Int)):=(oO p0 p1 p2).bind fun r=>if r.1.length=p0.length then some r else none
theorem ze {p0:(List Int)} {p1:(List Int)} {p2:Int} {r:(List Int)×(Int)} (h:fl p0 p1 p2=some r):r.1.length=p0.length:=by
 unfold fl at h
 obtain⟨q,hq,h⟩:=ah h
 split at h
 ·cases h;assumption
 ·cases h
def rC (p1:(List Int)):(Int)->Option ((Int)⊕((Int)))
 | s8a =>
  (P.idx p1 (IntKind.i64.wrap ((p1.length:Int)-1))).bind fun x12 =>
  if decide ((IntKind.i64.wrap (x12*s8a))<524288) then
   some (.inl (IntKind.i64.wrap (s8a*2)))
  else
   some (.inr s8a)
def rE (r19:(List Int)) (s13c:Int) (l9c:(List Int)) (x64:Int):(Int×Int)->Option ((Int×Int)⊕((Int)))
 | (s15g,s16g) =>
  (if decide (s15g>=1048576) then
   some true
  else
   if decide (s16g<1048576) then
    (P.idx r19 (IntKind.i64.wrap (((r19).length:Int)-2))).bind fun x83 =>
    (Fg .i64 s16g 20).bind fun x84 =>
    (P.idx l9c (IntKind.i64.wrap ((IntKind.i64.wrap (s13c+((r19).length:Int)))-2))).bind fun x86 =>
    some (decide ((IntKind.i64.wrap (s15g*x83))>(kf .or .i64 x84 x86)))
   else
    some false).bind fun s137j9 =>
  if s137j9 then
   some (.inl (IntKind.i64.wrap (s15g-1),IntKind.i64.wrap (s16g+x64)))
  else
   some (.inr s15g)
def rD (r19:(List Int)):(Int×(List Int)×(List Int))->Option ((Int×(List Int)×(List Int))⊕(((List Int)×(List Int))))
 | (s13c,l9c,l12c) =>
  if decide (s13c>=0) then
   (P.idx l9c (IntKind.i64.wrap (s13c+((r19).length:Int)))).bind fun x60 =>
   (Fg .i64 x60 20).bind fun x61 =>
   (P.idx l9c (IntKind.i64.wrap ((IntKind.i64.wrap (s13c+((r19).length:Int)))-1))).bind fun x63 =>
   (P.idx r19 (IntKind.i64.wrap (((r19).length:Int)-1))).bind fun x64 =>
   (y5 .i64 (kf .or .i64 x61 x63) x64).bind fun x65 =>
   (Dl .i64 (kf .or .i64 x61 x63) x64).bind fun x67 =>
   (aY (rE r19 s13c l9c x64) (x65,x67)).bind fun s15gx =>
   (A9 l9c s13c (IntKind.i64.wrap ((IntKind.i64.wrap (s13c+((r19).length:Int)))+1))).bind fun x87 =>
   (fl x87 r19 s15gx).bind fun r90 =>
   (P.idx l12c s13c).bind fun x92 =>
   some (.inl (IntKind.i64.wrap (s13c-1),(l9c.take (s13c).toNat++(r90.1++l9c.drop (IntKind.i64.wrap ((IntKind.i64.wrap (s13c+((r19).length:Int)))+1)).toNat)),(l12c.set (s13c).toNat r90.2)))
  else
   some (.inr (l9c,l12c))
def pH (p0:(List Int)) (p1:(List Int)):Option ((List Int)×(List Int)) :=
 (eT p0 p1).bind fun r1 =>
 if decide (r1<0) then
  (cH p0).bind fun r3 =>
  some ([],r3)
 else
  if ((p1.length:Int)==1) then
   (P.idx p1 0).bind fun x5 =>
   (k9 p0 x5).bind fun r6 =>
   (dz ([r6.2])).bind fun r8 =>
   some (r6.1,r8)
  else
   (aY (rC p1) 1).bind fun s8ax =>
   (nU p0 ([s8ax])).bind fun r15 =>
   (mo 8 r15 [0]).bind fun x16 =>
   (nU p1 ([s8ax])).bind fun r19 =>
   (if (((x16).length:Int)==(p0.length:Int)) then
    (mo 8 x16 [0]).bind fun x98 =>
    some x98
   else
    some x16).bind fun l9j2 =>
   (EC 8 (IntKind.i64.wrap (((l9j2).length:Int)-((r19).length:Int))) (IntKind.i64.wrap (((l9j2).length:Int)-((r19).length:Int))) 0).bind fun x21 =>
   (aY (rD r19) (IntKind.i64.wrap (((x21).length:Int)-1),l9j2,x21)).bind fun q=>match q with
   | (l9cx,l12cx) =>
    (dz l9cx).bind fun r94 =>
    (k9 r94 s8ax).bind fun r95 =>
    (dz l12cx).bind fun r96 =>
    some (r96,r95.1)
def cw (p0:Int) (p1:(List Int)):Option (al) :=
 (dz p1).bind fun r1 =>
 if ((r1.length:Int)==0) then
  some (al.mk 0 ([]))
 else
  some (al.mk p0 r1)
def oM:((List Int)×(List Int))->Option (((List Int)×(List Int))⊕(((List Int))))
 | (s6b,s7b) =>
  if decide ((s7b.length:Int)>0) then
   (pH s6b s7b).bind fun r11 =>
   some (.inl (s7b,r11.2))
  else
   some (.inr s6b)
def nS (p0:al) (p1:al):Option (al×Int) :=
 (cv p0).bind fun r1 =>
 (if (!r1) then
  some true
 else
  (cv p1).bind fun r16 =>
  some (!r16)).bind fun s17j1 =>
 if s17j1 then
  (dR false (al.mk 0 ([]))).bind fun r5 =>
  some (r5.1,r5.2)
 else
  (cH p0.aa).bind fun r6 =>
  (aY (oM) (r6,p1.aa)).bind fun s6bx =>
  (cH s6bx).bind fun r12 =>
  (cw 1 r12).bind fun r13 =>
  (dR true r13).bind fun r14 =>
  some (r14.1,r14.2)
def rA (p0:al):(Int×Int)->Option ((Int×Int)⊕((Int)⊕(Int×Bool)))
 | (s4b,s19b) =>
  if decide (s19b<(p0.aa.length:Int)) then
   (P.idx p0.aa s19b).bind fun x13 =>
   (if (s19b==3) then
    some (decide (x13>8))
   else
    some false).bind fun s29j4 =>
   if s29j4 then
    some (.inr (.inr (0,false)))
   else
    (Fg .u64 (IntKind.u64.wrap x13) (IntKind.i64.wrap (20*s19b))).bind fun x16 =>
    some (.inl (kf .or .u64 s4b x16,IntKind.i64.wrap (s19b+1)))
  else
   some (.inr (.inl s4b))
def rz (p0:al):Option (Int×Bool) :=
 (cv p0).bind fun r1 =>
 (if (!r1) then
  some true
 else
  some (decide ((p0.aa.length:Int)>4))).bind fun s15j1 =>
 if s15j1 then
  some (0,false)
 else
  (aY (rA p0) (0,0)).bind fun q=>match q with
  | (.inl s4bx) =>
   (if decide (p0.ag<0) then
    some (decide (s4bx<=9223372036854775808))
   else
    some false).bind fun s38j5 =>
   if s38j5 then
    some (IntKind.i64.wrap (IntKind.u64.wrap (0-s4bx)),true)
   else
    if decide (p0.ag>=0) then
     if decide (s4bx<9223372036854775808) then
      some (IntKind.i64.wrap s4bx,true)
     else
      some (0,false)
    else
     some (0,false)
  | (.inr rb) =>
   some rb
def oZ (p0:al):Option (Bool) :=
 (rz p0).bind fun r1 =>
 if r1.2 then
  some (r1.1==1)
 else
  some false
def cj (p0:ak):Option (Bool) :=
 (cv p0.aH).bind fun r1 =>
 (if (!r1) then
  some true
 else
  (cv p0.aK).bind fun r8 =>
  if (!r8) then
   some true
  else
   some (p0.aK.ag != 1)).bind fun s20j1 =>
 if s20j1 then
  some false
 else
  (nS p0.aH p0.aK).bind fun r4 =>
  if (r4.2==0) then
   (oZ r4.1).bind fun r6 =>
   some r6
  else
   some false
def hY (p0:ak):Option (Int) :=
 (cj p0).bind fun r1 =>
 if (!r1) then
  some 0
 else
  some p0.aH.ag
def uW (p0:(List Int)):(Int)->Option ((Int)⊕((Unit)⊕(Int)))
 | s8a =>
  if decide (s8a<(p0.length:Int)) then
   (P.idx p0 s8a).bind fun x6 =>
   if (x6 != 0) then
    some (.inr (.inr x6))
   else
    some (.inl (IntKind.i64.wrap (s8a+1)))
  else
   some (.inr (.inl ()))
def tN (p0:(List Int)):Option (Int) :=
 (aY (uW p0) 0).bind fun q=>match q with
 | (.inl _) =>
  some 0
 | (.inr ra) =>
  some ra
def kQ (p0:dy) (p1:dy):Option (Int) :=
 (eA p0.cR p1.cR).bind fun r1 =>
 (eA p0.kM p1.kM).bind fun r2 =>
 (tN ([r1,r2])).bind fun r4 =>
 some r4
def uT:(Int×(List Int))->Option ((Int×(List Int))⊕(((List Int))))
 | (s4b,l5b) =>
  if decide (s4b>0) then
   (mo 8 l5b [IntKind.i64.wrap (kf .and .u64 s4b 1048575)]).bind fun x9 =>
   (xm .u64 s4b 20).bind fun x11 =>
   some (.inl (x11,x9))
  else
   some (.inr l5b)
def tG (p0:Int):Option (al) :=
 (if decide (p0<0) then
  some ((-1),IntKind.u64.wrap (0-(IntKind.u64.wrap p0)))
 else
  some (1,IntKind.u64.wrap p0)).bind fun q=>match q with
 | (s3j1,s4j1) =>
  (aY (uT) (s4j1,[])).bind fun l5bx =>
  (cw s3j1 l5bx).bind fun r13 =>
  some r13
def g9 (p0:Int):Option (ak) :=
 (tG p0).bind fun r1 =>
 (tG 1).bind fun r2 =>
 some (ak.mk r1 r2)
def mN (p0:al):Option (al) :=
 (cv p0).bind fun r1 =>
 if (!r1) then
  some (al.mk 0 ([]))
 else
  (cH p0.aa).bind fun r3 =>
  (cw (IntKind.i64.wrap (0-p0.ag)) r3).bind fun r4 =>
  some r4
def rB (p0:al) (p1:al):Option (al×Int) :=
 (cv p0).bind fun r1 =>
 (if (!r1) then
  some true
 else
  (cv p1).bind fun r10 =>
  some (!r10)).bind fun s13j1 =>
 if s13j1 then
  (dR false (al.mk 0 ([]))).bind fun r5 =>
  some (r5.1,r5.2)
 else
  (nU p0.aa p1.aa).bind fun r6 =>
  (cw (IntKind.i64.wrap (p0.ag*p1.ag)) r6).bind fun r7 =>
  (dR true r7).bind fun r8 =>
  some (r8.1,r8.2)
def bU (p0:al) (p1:al):Option (al) :=
 (rB p0 p1).bind fun r1 =>
 some r1.1
def oN (s0j1:(List Int)) (s1j1:(List Int)):(Int×Int×(List Int))->Option ((Int×Int×(List Int))⊕((Int×(List Int))))
 | (s6b,s22b,l5b) =>
  if decide (s22b<(s0j1.length:Int)) then
   (P.idx s0j1 s22b).bind fun x15 =>
   (if decide (s22b<(s1j1.length:Int)) then
    (P.idx s1j1 s22b).bind fun x22 =>
    some (IntKind.i64.wrap ((IntKind.i64.wrap (s6b+x15))+x22))
   else
    some (IntKind.i64.wrap (s6b+x15))).bind fun s6j4 =>
   (P.idx l5b s22b).bind fun x17 =>
   (xm .i64 s6j4 20).bind fun x19 =>
   some (.inl (x19,IntKind.i64.wrap (s22b+1),(l5b.set (s22b).toNat (kf .and .i64 s6j4 1048575))))
  else
   some (.inr (s6b,l5b))
def pG (p0:(List Int)) (p1:(List Int)):Option ((List Int)) :=
 (if decide ((p0.length:Int)<(p1.length:Int)) then
  some (p1,p0)
 else
  some (p0,p1)).bind fun q=>match q with
 | (s0j1,s1j1) =>
  (EC 8 (IntKind.i64.wrap ((s0j1.length:Int)+1)) (IntKind.i64.wrap ((s0j1.length:Int)+1)) 0).bind fun x2 =>
  (aY (oN s0j1 s1j1) (0,0,x2)).bind fun q=>match q with
  | (s6bx,l5bx) =>
   (P.idx l5bx (s0j1.length:Int)).bind fun x23 =>
   (dz (l5bx.set ((s0j1.length:Int)).toNat s6bx)).bind fun r26 =>
   some r26
def rH (p1:(List Int)) (r1:(List Int)):(Int×Int×(List Int))->Option ((Int×Int×(List Int))⊕(((List Int))))
 | (s6a,s13a,l5a) =>
  if decide (s13a<((r1).length:Int)) then
   (P.idx l5a s13a).bind fun x12 =>
   (if decide (s13a<(p1.length:Int)) then
    (P.idx p1 s13a).bind fun x18 =>
    some (IntKind.i64.wrap ((IntKind.i64.wrap (x12-s6a))-x18))
   else
    some (IntKind.i64.wrap (x12-s6a))).bind fun s8j3 =>
   (xm .i64 s8j3 20).bind fun x14 =>
   some (.inl (kf .and .i64 x14 1,IntKind.i64.wrap (s13a+1),(l5a.set (s13a).toNat (kf .and .i64 s8j3 1048575))))
  else
   some (.inr l5a)
def nW (p0:(List Int)) (p1:(List Int)):Option ((List Int)) :=
 (cH p0).bind fun r1 =>
 (aY (rH p1 r1) (0,0,r1)).bind fun l5ax =>
 (dz l5ax).bind fun r19 =>
 some r19
def rv (p0:al) (p1:al):Option (al×Int) :=
 (cv p0).bind fun r1 =>
 (if (!r1) then
  some true
 else
  (cv p1).bind fun r21 =>
  some (!r21)).bind fun s13j1 =>
 if s13j1 then
  (dR false (al.mk 0 ([]))).bind fun r5 =>
  some (r5.1,r5.2)
 else
  if decide ((IntKind.i64.wrap (p0.ag*p1.ag))>=0) then
   (tN ([p0.ag,p1.ag])).bind fun r8 =>
   (pG p0.aa p1.aa).bind fun r9 =>
   (cw r8 r9).bind fun r10 =>
   (dR true r10).bind fun r11 =>
   some (r11.1,r11.2)
  else
   (eT p0.aa p1.aa).bind fun r12 =>
   if decide (r12<0) then
    (nW p1.aa p0.aa).bind fun r14 =>
    (cw p1.ag r14).bind fun r15 =>
    (dR true r15).bind fun r16 =>
    some (r16.1,r16.2)
   else
    (nW p0.aa p1.aa).bind fun r17 =>
    (cw p0.ag r17).bind fun r18 =>
    (dR true r18).bind fun r19 =>
    some (r19.1,r19.2)
def mM (p0:al) (p1:al):Option (al×al×Int) :=
 (cv p0).bind fun r1 =>
 (if (!r1) then
  some true
 else
  (cv p1).bind fun r17 =>
  some (!r17)).bind fun s9j1 =>
 if s9j1 then
  some ((al.mk 0 ([])),(al.mk 0 ([])),1)
 else
  if (p1.ag==0) then
   some ((al.mk 0 ([])),(al.mk 0 ([])),15)
  else
   (pH p0.aa p1.aa).bind fun r5 =>
   (if decide ((IntKind.i64.wrap (p0.ag*p1.ag))<0) then
    some (decide ((r5.2.length:Int)>0))
   else
    some false).bind fun s44j2 =>
   if s44j2 then
    (pG r5.1 ([1])).bind fun r9 =>
    (cw (-1) r9).bind fun r10 =>
    (nW p1.aa r5.2).bind fun r11 =>
    (cw p1.ag r11).bind fun r12 =>
    some (r10,r12,0)
   else
    (cw (IntKind.i64.wrap (p0.ag*p1.ag)) r5.1).bind fun r13 =>
    (cw p0.ag r5.2).bind fun r14 =>
    some (r13,r14,0)
def lM (p0:al) (p1:al):Option (ak×Int) :=
 (cv p0).bind fun r1 =>
 (if (!r1) then
  some true
 else
  (cv p1).bind fun r13 =>
  some (!r13)).bind fun s14j1 =>
 if s14j1 then
  some ((ak.mk (al.mk 0 ([])) (al.mk 0 ([]))),1)
 else
  if (p1.ag==0) then
   some ((ak.mk (al.mk 0 ([])) (al.mk 0 ([]))),15)
  else
   (if decide (p1.ag<0) then
    (mN p0).bind fun r10 =>
    (mN p1).bind fun r11 =>
    some (r10.ag,r10.aa,r11.ag,r11.aa)
   else
    some (p0.ag,p0.aa,p1.ag,p1.aa)).bind fun q=>match q with
   | (r2_0j2,r2_1j2,r3_0j2,r3_1j2) =>
    (nS (al.mk r2_0j2 r2_1j2) (al.mk r3_0j2 r3_1j2)).bind fun r6 =>
    (mM (al.mk r2_0j2 r2_1j2) r6.1).bind fun r7 =>
    (mM (al.mk r3_0j2 r3_1j2) r6.1).bind fun r8 =>
    some ((ak.mk r7.1 r8.1),0)
def kg (p0:ak) (p1:ak):Option (ak×Int) :=
 (cj p0).bind fun r1 =>
 (if (!r1) then
  some true
 else
  (cj p1).bind fun r10 =>
  some (!r10)).bind fun s15j1 =>
 if s15j1 then
  some ((ak.mk (al.mk 0 ([])) (al.mk 0 ([]))),1)
 else
  (bU p0.aH p1.aK).bind fun r4 =>
  (bU p1.aH p0.aK).bind fun r5 =>
  (rv r4 r5).bind fun r6 =>
  (bU p0.aK p1.aK).bind fun r7 =>
  (lM r6.1 r7).bind fun r8 =>
  some (r8.1,r8.2)
def nf (p0:ak) (p1:ak):Option (ak×Int) :=
 (cj p0).bind fun r1 =>
 (if (!r1) then
  some true
 else
  (cj p1).bind fun r7 =>
  some (!r7)).bind fun s13j1 =>
 if s13j1 then
  some ((ak.mk (al.mk 0 ([])) (al.mk 0 ([]))),1)
 else
  (mN p1.aH).bind fun r4 =>
  (kg p0 (ak.mk r4 p1.aK)).bind fun r5 =>
  some (r5.1,r5.2)
def lT (x1:(List ak)):(Int×(List ak))->Option ((Int×(List ak))⊕(((List ak))))
 | (s12a,l3a) =>
  if decide (s12a<((x1).length:Int)) then
   (g9 1).bind fun r9 =>
   (P.idx l3a s12a).bind fun x10 =>
   some (.inl (IntKind.i64.wrap (s12a+1),(l3a.set (s12a).toNat r9)))
  else
   some (.inr l3a)
def lU (p0:bY):(Int×(List ak))->Option ((Int×(List ak))⊕(((List ak))))
 | (s23b,l3b) =>
  if decide (s23b<(p0.av.length:Int)) then
   (P.idx p0.av s23b).bind fun x19 =>
   (P.idx l3b x19.cR).bind fun x20 =>
   (nf x20 x19.ba).bind fun r21 =>
   some (.inl (IntKind.i64.wrap (s23b+1),(l3b.set (x19.cR).toNat r21.1)))
  else
   some (.inr l3b)
def ll (p0:bY):Option ((List ak)) :=
 (EC 64 p0.aD p0.aD (ak.mk (al.mk 0 ([])) (al.mk 0 ([])))).bind fun x1 =>
 (aY (lT x1) (0,x1)).bind fun l3ax =>
 (aY (lU p0) (0,l3ax)).bind fun l3bx =>
 some l3bx
def lk (p0:ak):Option (Bool) :=
 (hY p0).bind fun r1 =>
 some (decide (r1<0))
def db (p0:(List ak)):(Int)->Option ((Int)⊕((Unit)⊕(Int)))
 | s8a =>
  if decide (s8a<(p0.length:Int)) then
   (P.idx p0 s8a).bind fun x7 =>
   (lk x7).bind fun r8 =>
   if r8 then
    some (.inr (.inr s8a))
   else
    some (.inl (IntKind.i64.wrap (s8a+1)))
  else
   some (.inr (.inl ()))
def cf (p0:(List ak)):Option (Int) :=
 (aY (db p0) 0).bind fun q=>match q with
 | (.inl _) =>
  some (-1)
 | (.inr ra) =>
  some ra
def bz (p0:(List ak)):Option (Bool) :=
 (cf p0).bind fun r1 =>
 some (decide (r1>=0))
def lS (p0:bY):(Int)->Option ((Int)⊕((Unit)⊕(Bool)))
 | s18b =>
  if decide (s18b<(p0.av.length:Int)) then
   (P.idx p0.av s18b).bind fun x21 =>
   (gM x21.cR 0 (IntKind.i64.wrap (p0.aD-1))).bind fun r22 =>
   (if (!r22) then
    some true
   else
    (gM x21.kM 0 (IntKind.i64.wrap (p0.aD-1))).bind fun r30 =>
    if (!r30) then
     some true
    else
     (cj x21.ba).bind fun r32 =>
     if (!r32) then
      some true
     else
      (hY x21.ba).bind fun r34 =>
      some (decide (r34<=0))).bind fun s50j4 =>
   if s50j4 then
    some (.inr (.inr false))
   else
    if decide (s18b>0) then
     (P.idx p0.av (IntKind.i64.wrap (s18b-1))).bind fun x26 =>
     (kQ x26 x21).bind fun r27 =>
     if decide (r27>=0) then
      some (.inr (.inr false))
     else
      some (.inl (IntKind.i64.wrap (s18b+1)))
    else
     some (.inl (IntKind.i64.wrap (s18b+1)))
  else
   some (.inr (.inl ()))
def iV (p0:bY):Option (Bool) :=
 (gM p0.aD 0 2000).bind fun r1 =>
 (if (!r1) then
  some true
 else
  some (decide ((p0.av.length:Int)>8000))).bind fun s14j1 =>
 if s14j1 then
  some false
 else
  (aY (lS p0) 0).bind fun q=>match q with
  | (.inl _) =>
   (ll p0).bind fun r35 =>
   (bz r35).bind fun r36 =>
   some (!r36)
  | (.inr rb) =>
   some rb
def gp (p0:ak):Option (Bool) :=
 (cj p0).bind fun r1 =>
 some (!r1)
def cA (p0:(List ak)):(Int)->Option ((Int)⊕((Unit)⊕(Int)))
 | s8a =>
  if decide (s8a<(p0.length:Int)) then
   (P.idx p0 s8a).bind fun x7 =>
   (gp x7).bind fun r8 =>
   if r8 then
    some (.inr (.inr s8a))
   else
    some (.inl (IntKind.i64.wrap (s8a+1)))
  else
   some (.inr (.inl ()))
def bS (p0:(List ak)):Option (Int) :=
 (aY (cA p0) 0).bind fun q=>match q with
 | (.inl _) =>
  some (-1)
 | (.inr ra) =>
  some ra
def bC (p0:(List ak)):Option (Bool) :=
 (bS p0).bind fun r1 =>
 some (decide (r1>=0))
def eQ (p0:(List ak)) (p1:Int):Option (Bool) :=
 if ((p0.length:Int)==p1) then
  (bC p0).bind fun r2 =>
  some (!r2)
 else
  some false
def jU (p0:bY):(Int×(List (List Int)))->Option ((Int×(List (List Int)))⊕(((List (List Int)))))
 | (s22a,l18a) =>
  if decide (s22a<(p0.av.length:Int)) then
   (P.idx p0.av s22a).bind fun x13 =>
   (P.idx l18a x13.kM).bind fun x14 =>
   (mo 8 x14 [x13.cR]).bind fun x15 =>
   some (.inl (IntKind.i64.wrap (s22a+1),(l18a.set (x13.kM).toNat x15)))
  else
   some (.inr l18a)
def jV (r20:(List ak)):(Int×(List Int)×(List Int))->Option ((Int×(List Int)×(List Int))⊕(((List Int)×(List Int))))
 | (s46b,l6b,l7b) =>
  if decide (s46b<(r20.length:Int)) then
   (P.idx r20 s46b).bind fun x33 =>
   (P.idx l6b s46b).bind fun x34 =>
   (hY x33).bind fun r36 =>
   if decide (r36>0) then
    (P.idx (l6b.set (s46b).toNat (-1)) s46b).bind fun x38 =>
    (mo 8 l7b [s46b]).bind fun x40 =>
    some (.inl (IntKind.i64.wrap (s46b+1),((l6b.set (s46b).toNat (-1)).set (s46b).toNat 0),x40))
   else
    some (.inl (IntKind.i64.wrap (s46b+1),(l6b.set (s46b).toNat (-1)),l7b))
  else
   some (.inr (l6b,l7b))
def jX (x66:Int) (x69:(List Int)):(Int×(List Int)×(List Int))->Option ((Int×(List Int)×(List Int))⊕(((List Int)×(List Int))))
 | (s78e,l6e,l7e) =>
  if decide (s78e<((x69).length:Int)) then
   (P.idx x69 s78e).bind fun x80 =>
   (P.idx l6e x80).bind fun x81 =>
   if (x81==(-1)) then
    (P.idx l6e x66).bind fun x83 =>
    (mo 8 l7e [x80]).bind fun x85 =>
    some (.inl (IntKind.i64.wrap (s78e+1),(l6e.set (x80).toNat (IntKind.i64.wrap (x83+1))),x85))
   else
    some (.inl (IntKind.i64.wrap (s78e+1),l6e,l7e))
  else
   some (.inr (l6e,l7e))
def jW (l18ax:(List (List Int))):((List Int)×(List Int))->Option (((List Int)×(List Int))⊕(((List Int))))
 | (l6c,l7c) =>
  if decide (((l7c).length:Int)>0) then
   (P.idx l7c 0).bind fun x66 =>
   (A9 l7c 1 (l7c.length:Int)).bind fun x67 =>
   (P.idx l18ax x66).bind fun x69 =>
   (aY (jX x66 x69) (0,l6c,x67)).bind fun q=>match q with
   | (l6ex,l7ex) =>
    some (.inl (l6ex,l7ex))
  else
   some (.inr l6c)
def jT (p0:bY):Option ((List Int)) :=
 (iV p0).bind fun r1 =>
 if (!r1) then
  some ([])
 else
  (EC 24 p0.aD p0.aD ([])).bind fun x3 =>
  (aY (jU p0) (0,x3)).bind fun l18ax =>
  (EC 8 p0.aD p0.aD 0).bind fun x18 =>
  (ll p0).bind fun r20 =>
  (aY (jV r20) (0,x18,[])).bind fun q=>match q with
  | (l6bx,l7bx) =>
   (aY (jW l18ax) (l6bx,l7bx)).bind fun l6cx =>
   some l6cx
def ia (r1:(List Int)):(Int×(List Int))->Option ((Int×(List Int))⊕(((List Int))))
 | (s9a,l3a) =>
  if decide (s9a<(r1.length:Int)) then
   (P.idx r1 s9a).bind fun x9 =>
   if (x9==(-1)) then
    (mo 8 l3a [s9a]).bind fun x11 =>
    some (.inl (IntKind.i64.wrap (s9a+1),x11))
   else
    some (.inl (IntKind.i64.wrap (s9a+1),l3a))
  else
   some (.inr l3a)
def gC (p0:bY):Option ((List Int)) :=
 (jT p0).bind fun r1 =>
 (aY (ia r1) (0,[])).bind fun l3ax =>
 some l3ax
def fQ (p1:(List ak)) (x1:(List aw)):(Int×(List aw))->Option ((Int×(List aw))⊕(((List aw))))
 | (s14a,l11a) =>
  if decide (s14a<((x1).length:Int)) then
   (P.idx p1 s14a).bind fun x10 =>
   (P.idx l11a s14a).bind fun x11 =>
   some (.inl (IntKind.i64.wrap (s14a+1),(l11a.set (s14a).toNat (aw.mk x10 x11.bk))))
  else
   some (.inr l11a)
def fR (p0:bY):(Int×(List aw))->Option ((Int×(List aw))⊕(((List aw))))
 | (s29b,l11b) =>
  if decide (s29b<(p0.av.length:Int)) then
   (P.idx p0.av s29b).bind fun x24 =>
   (P.idx l11b x24.kM).bind fun x25 =>
   (mo 72 x25.bk [(dL.mk x24.cR x24.ba)]).bind fun x27 =>
   some (.inl (IntKind.i64.wrap (s29b+1),(l11b.set (x24.kM).toNat (aw.mk x25.aO x27))))
  else
   some (.inr l11b)
def cK (p0:bY) (p1:(List ak)):Option ((List aw)) :=
 (EC 88 p0.aD p0.aD (aw.mk (ak.mk (al.mk 0 ([])) (al.mk 0 ([]))) ([]))).bind fun x1 =>
 (aY (fQ p1 x1) (0,x1)).bind fun l11ax =>
 (aY (fR p0) (0,l11ax)).bind fun l11bx =>
 some l11bx
def cr (p0:dL) (p1:Int):Option (Int) :=
 (eA p0.ka p1).bind fun r1 =>
 some r1
def bE (p0:(List dL)) (p1:Int):(Int×Int)->Option ((Int×Int)⊕((Int)))
 | (s9a,s10a) =>
  if decide (s9a<s10a) then
   (xm .u64 (IntKind.u64.wrap (IntKind.i64.wrap (s9a+s10a))) 1).bind fun x9 =>
   (P.idx p0 (IntKind.i64.wrap x9)).bind fun x11 =>
   (cr x11 p1).bind fun r12 =>
   if decide (r12<0) then
    some (.inl (IntKind.i64.wrap ((IntKind.i64.wrap x9)+1),s10a))
   else
    some (.inl (s9a,IntKind.i64.wrap x9))
  else
   some (.inr s9a)
def aR (p0:(List dL)) (p1:Int):Option (Int×Bool) :=
 (aY (bE p0 p1) (0,(p0.length:Int))).bind fun s9ax =>
 if decide (s9ax<(p0.length:Int)) then
  (P.idx p0 s9ax).bind fun x15 =>
  (cr x15 p1).bind fun r16 =>
  some (s9ax,(r16==0))
 else
  some (s9ax,false)
def cu (p0:aw) (p1:Int):Option (aw×(Int×Bool)) :=
 (aR p0.bk p1).bind fun r1 =>
 some (p0,(r1.1,r1.2))
def fH (p0:(List dL)) (p1 p2:Int):Option (List dL):=VM p0 p1 p2
def lL (p0:ak) (p1:ak):Option (ak×Int) :=
 (cj p0).bind fun r1 =>
 (if (!r1) then
  some true
 else
  (cj p1).bind fun r9 =>
  some (!r9)).bind fun s6j1 =>
 if s6j1 then
  some ((ak.mk (al.mk 0 ([])) (al.mk 0 ([]))),1)
 else
  if (p1.aH.ag==0) then
   some ((ak.mk (al.mk 0 ([])) (al.mk 0 ([]))),15)
  else
   (bU p0.aH p1.aK).bind fun r5 =>
   (bU p0.aK p1.aH).bind fun r6 =>
   (lM r5 r6).bind fun r7 =>
   some (r7.1,r7.2)
def dU (r8:ak×Int) (r10:(List dL)):(Int×(List dL))->Option ((Int×(List dL))⊕(((List dL))))
 | (s58a,r0_4a) =>
  if decide (s58a<((r10).length:Int)) then
   (P.idx r0_4a s58a).bind fun x21 =>
   (lL x21.dD r8.1).bind fun r23 =>
   some (.inl (IntKind.i64.wrap (s58a+1),(r0_4a.set (s58a).toNat (dL.mk x21.ka r23.1))))
  else
   some (.inr r0_4a)
def de (p0:aw) (p1:Int):Option (aw×(Unit)) :=
 (cu p0 p1).bind fun r2 =>
 if (!r2.2.2) then
  some (r2.1,())
 else
  (g9 1).bind fun r5 =>
  (P.idx r2.1.bk r2.2.1).bind fun x6 =>
  (nf r5 x6.dD).bind fun r8 =>
  (fH r2.1.bk r2.2.1 (IntKind.i64.wrap (r2.2.1+1))).bind fun r10 =>
  (lL r2.1.aO r8.1).bind fun r12 =>
  (aY (dU r8 r10) (0,r10)).bind fun r0_4ax =>
  some ((aw.mk r12.1 r0_4ax),())
def nd (p0:ak) (p1:ak):Option (ak×Int) :=
 (cj p0).bind fun r1 =>
 (if (!r1) then
  some true
 else
  (cj p1).bind fun r8 =>
  some (!r8)).bind fun s13j1 =>
 if s13j1 then
  some ((ak.mk (al.mk 0 ([])) (al.mk 0 ([]))),1)
 else
  (bU p0.aH p1.aH).bind fun r4 =>
  (bU p0.aK p1.aK).bind fun r5 =>
  (lM r4 r5).bind fun r6 =>
  some (r6.1,r6.2)
def fi (p0:ak) (p1:ak) (p2:ak):Option (ak) :=
 (nd p1 p2).bind fun r1 =>
 (kg p0 r1.1).bind fun r2 =>
 some r2.1
def dN (p0:aw) (p1:Int) (p2:ak):Option (aw×(Unit)) :=
 (cu p0 p1).bind fun r2 =>
 if r2.2.2 then
  (P.idx r2.1.bk r2.2.1).bind fun x5 =>
  (g9 1).bind fun r7 =>
  (fi x5.dD p2 r7).bind fun r8 =>
  some ((aw.mk r2.1.aO (r2.1.bk.set (r2.2.1).toNat (dL.mk x5.ka r8))),())
 else
  (Wr 72 r2.1.bk r2.2.1 [(dL.mk p1 p2)]).bind fun x11 =>
  some ((aw.mk r2.1.aO x11),())
def eF (p2:aw) (x5:dL):(Int×Int×(List Int)×Int×(List Int)×(List dL))->Option ((Int×Int×(List Int)×Int×(List Int)×(List dL))⊕((Int×(List Int)×Int×(List Int)×(List dL))))
 | (s52a,r0_0a,r0_1a,r0_2a,r0_3a,r0_4a) =>
  if decide (s52a<(p2.bk.length:Int)) then
   (P.idx p2.bk s52a).bind fun x20 =>
   (g9 0).bind fun r21 =>
   (fi r21 x5.dD x20.dD).bind fun r22 =>
   (dN (aw.mk (ak.mk (al.mk r0_0a r0_1a) (al.mk r0_2a r0_3a)) r0_4a) x20.ka r22).bind fun r24 =>
   some (.inl (IntKind.i64.wrap (s52a+1),r24.1.aO.aH.ag,r24.1.aO.aH.aa,r24.1.aO.aK.ag,r24.1.aO.aK.aa,r24.1.bk))
  else
   some (.inr (r0_0a,r0_1a,r0_2a,r0_3a,r0_4a))
def dO (p0:aw) (p1:Int) (p2:aw):Option (aw×(Unit)) :=
 (cu p0 p1).bind fun r2 =>
 if (!r2.2.2) then
  some (r2.1,())
 else
  (P.idx r2.1.bk r2.2.1).bind fun x5 =>
  (fH r2.1.bk r2.2.1 (IntKind.i64.wrap (r2.2.1+1))).bind fun r8 =>
  (fi r2.1.aO x5.dD p2.aO).bind fun r10 =>
  (aY (eF p2 x5) (0,r10.aH.ag,r10.aH.aa,r10.aK.ag,r10.aK.aa,r8)).bind fun q=>match q with
  | (r0_0ax,r0_1ax,r0_2ax,r0_3ax,r0_4ax) =>
   some ((aw.mk (ak.mk (al.mk r0_0ax r0_1ax) (al.mk r0_2ax r0_3ax)) r0_4ax),())
def lv (s35b:Int):(Int×(List (Bool×aw)))->Option ((Int×(List (Bool×aw)))⊕(((List (Bool×aw)))))
 | (s8d,l32d) =>
  if decide (s8d<((l32d).length:Int)) then
   (P.idx l32d s8d).bind fun x50 =>
   (P.idx l32d s35b).bind fun x51 =>
   (Oi x51).bind fun x52 =>
   (NQ x50).bind fun x54 =>
   (dO x54 s35b x52).bind fun r56 =>
   some (.inl (IntKind.i64.wrap (s8d+1),(l32d.set (s8d).toNat (false,r56.1))))
  else
   some (.inr l32d)
def jH (r6:(List aw)):(Int×(List (Bool×aw)))->Option ((Int×(List (Bool×aw)))⊕(((List (Bool×aw)))))
 | (s35b,l32b) =>
  if decide (s35b<((r6).length:Int)) then
   (P.idx l32b s35b).bind fun x34 =>
   (NQ x34).bind fun x35 =>
   (de x35 s35b).bind fun r37 =>
   (aY (lv s35b) (IntKind.i64.wrap (s35b+1),(l32b.set (s35b).toNat (true,r37.1)))).bind fun l32dx =>
   some (.inl (IntKind.i64.wrap (s35b+1),l32dx))
  else
   some (.inr l32b)
def nE (l9e:(List ak)) (x81:aw):(Int×Int×(List Int)×Int×(List Int))->Option ((Int×Int×(List Int)×Int×(List Int))⊕((Int×(List Int)×Int×(List Int))))
 | (s85g,r11_0g,r11_1g,r11_2g,r11_3g) =>
  if decide (s85g<(x81.bk.length:Int)) then
   (P.idx x81.bk s85g).bind fun x92 =>
   (P.idx l9e x92.ka).bind fun x93 =>
   (fi (ak.mk (al.mk r11_0g r11_1g) (al.mk r11_2g r11_3g)) x92.dD x93).bind fun r94 =>
   some (.inl (IntKind.i64.wrap (s85g+1),r94.aH.ag,r94.aH.aa,r94.aK.ag,r94.aK.aa))
  else
   some (.inr (r11_0g,r11_1g,r11_2g,r11_3g))
def jI (l32bx:(List (Bool×aw))):(Int×(List ak))->Option ((Int×(List ak))⊕(((List ak))))
 | (s10e,l9e) =>
  if decide (s10e>=0) then
   (P.idx l32bx s10e).bind fun x80 =>
   (Oi x80).bind fun x81 =>
   (g9 0).bind fun r83 =>
   (fi x81.aO r83 r83).bind fun r84 =>
   (aY (nE l9e x81) (0,r84.aH.ag,r84.aH.aa,r84.aK.ag,r84.aK.aa)).bind fun q=>match q with
   | (r11_0gx,r11_1gx,r11_2gx,r11_3gx) =>
    (P.idx l9e s10e).bind fun x95 =>
    some (.inl (IntKind.i64.wrap (s10e-1),(l9e.set (s10e).toNat (ak.mk (al.mk r11_0gx r11_1gx) (al.mk r11_2gx r11_3gx)))))
  else
   some (.inr l9e)
def fP (p0:bY) (p1:(List ak)):Option ((List ak)×Int) :=
 (iV p0).bind fun r1 =>
 (if (!r1) then
  some true
 else
  (eQ p1 p0.aD).bind fun r98 =>
  some (!r98)).bind fun s14j1 =>
 if s14j1 then
  some ([],1)
 else
  (gC p0).bind fun r4 =>
  if decide ((r4.length:Int)>0) then
   some ([],24)
  else
   (cK p0 p1).bind fun r6 =>
   (aY (jH r6) (0,(GF r6))).bind fun l32bx =>
   (EC 64 p0.aD p0.aD (ak.mk (al.mk 0 ([])) (al.mk 0 ([])))).bind fun x58 =>
   (aY (jI l32bx) (IntKind.i64.wrap (((l32bx).length:Int)-1),x58)).bind fun l9ex =>
   some (l9ex,0)
def l4 (p0:al) (p1:al):(Int)->Option ((Int)⊕((Unit)⊕(Bool)))
 | s5b =>
  if decide (s5b<(p0.aa.length:Int)) then
   (P.idx p0.aa s5b).bind fun x9 =>
   (P.idx p1.aa s5b).bind fun x10 =>
   if (x9 != x10) then
    some (.inr (.inr false))
   else
    some (.inl (IntKind.i64.wrap (s5b+1)))
  else
   some (.inr (.inl ()))
def iA (p0:al) (p1:al):Option (Bool) :=
 (if (p0.ag != p1.ag) then
  some true
 else
  some ((p0.aa.length:Int) != (p1.aa.length:Int))).bind fun s19j1 =>
 if s19j1 then
  some false
 else
  (aY (l4 p0 p1) 0).bind fun q=>match q with
  | (.inl _) =>
   some true
  | (.inr rb) =>
   some rb
def pt (p0:ak) (p1:ak):Option (Bool) :=
 (iA p0.aH p1.aH).bind fun r1 =>
 if r1 then
  (iA p0.aK p1.aK).bind fun r3 =>
  some r3
 else
  some false
def ql (p0:(List ak)) (p1:(List ak)):(Int)->Option ((Int)⊕((Unit)⊕(Bool)))
 | s5a =>
  if decide (s5a<(p0.length:Int)) then
   (P.idx p0 s5a).bind fun x9 =>
   (P.idx p1 s5a).bind fun x10 =>
   (pt x9 x10).bind fun r11 =>
   if (!r11) then
    some (.inr (.inr false))
   else
    some (.inl (IntKind.i64.wrap (s5a+1)))
  else
   some (.inr (.inl ()))
def nD (p0:(List ak)) (p1:(List ak)):Option (Bool) :=
 if ((p0.length:Int) != (p1.length:Int)) then
  some false
 else
  (aY (ql p0 p1) 0).bind fun q=>match q with
  | (.inl _) =>
   some true
  | (.inr ra) =>
   some ra
def js (p0:al) (p1:al):Option (Int) :=
 (cv p0).bind fun r1 =>
 (if (!r1) then
  some true
 else
  (cv p1).bind fun r8 =>
  some (!r8)).bind fun s12j1 =>
 if s12j1 then
  some 0
 else
  if (p0.ag != p1.ag) then
   (eA p0.ag p1.ag).bind fun r5 =>
   some r5
  else
   (eT p0.aa p1.aa).bind fun r6 =>
   some (IntKind.i64.wrap (p0.ag*r6))
def iE (p0:ak) (p1:ak):Option (Int) :=
 (cj p0).bind fun r1 =>
 (if (!r1) then
  some true
 else
  (cj p1).bind fun r8 =>
  some (!r8)).bind fun s12j1 =>
 if s12j1 then
  some 0
 else
  (bU p0.aH p1.aK).bind fun r4 =>
  (bU p1.aH p0.aK).bind fun r5 =>
  (js r4 r5).bind fun r6 =>
  some r6
def jG (p2:(List ak)) (x21:aw):(Int×Int×(List Int)×Int×(List Int))->Option ((Int×Int×(List Int)×Int×(List Int))⊕((Int×(List Int)×Int×(List Int))))
 | (s43d,r9_0d,r9_1d,r9_2d,r9_3d) =>
  if decide (s43d<(x21.bk.length:Int)) then
   (P.idx x21.bk s43d).bind fun x28 =>
   (P.idx p2 x28.ka).bind fun x29 =>
   (fi (ak.mk (al.mk r9_0d r9_1d) (al.mk r9_2d r9_3d)) x28.dD x29).bind fun r30 =>
   some (.inl (IntKind.i64.wrap (s43d+1),r30.aH.ag,r30.aH.aa,r30.aK.ag,r30.aK.aa))
  else
   some (.inr (r9_0d,r9_1d,r9_2d,r9_3d))
def jF (p2:(List ak)) (r4:(List aw)):(Int)->Option ((Int)⊕((Unit)⊕(Bool)))
 | s33b =>
  if decide (s33b<(r4.length:Int)) then
   (P.idx r4 s33b).bind fun x21 =>
   (aY (jG p2 x21) (0,x21.aO.aH.ag,x21.aO.aH.aa,x21.aO.aK.ag,x21.aO.aK.aa)).bind fun q=>match q with
   | (r9_0dx,r9_1dx,r9_2dx,r9_3dx) =>
    (P.idx p2 s33b).bind fun x31 =>
    (iE (ak.mk (al.mk r9_0dx r9_1dx) (al.mk r9_2dx r9_3dx)) x31).bind fun r32 =>
    if (r32 != 0) then
     some (.inr (.inr false))
    else
     some (.inl (IntKind.i64.wrap (s33b+1)))
  else
   some (.inr (.inl ()))
def dS (p0:bY) (p1:(List ak)) (p2:(List ak)):Option (Bool) :=
 (iV p0).bind fun r1 =>
 (if (!r1) then
  some true
 else
  (eQ p1 p0.aD).bind fun r35 =>
  if (!r35) then
   some true
  else
   (eQ p2 p0.aD).bind fun r37 =>
   some (!r37)).bind fun s28j1 =>
 if s28j1 then
  some false
 else
  (cK p0 p1).bind fun r4 =>
  (aY (jF p2 r4) 0).bind fun q=>match q with
  | (.inl _) =>
   some true
  | (.inr rb) =>
   some rb
def ng (p0:bY) (p1:(List Int)) (p2:(List Int)):Option (Bool) :=
 (ki p1).bind fun r1 =>
 (fP p0 r1).bind fun r2 =>
 if (r2.2==0) then
  (ki p2).bind fun r4 =>
  (nD r2.1 r4).bind fun r5 =>
  if r5 then
   (dS p0 r1 r2.1).bind fun r7 =>
   some r7
  else
   some false
 else
  some false
def ox:Option (Bool) :=
 (kj 0 1 1 2).bind fun r1 =>
 (kj 1 0 1 2).bind fun r2 =>
 (kj 0 1 1 1).bind fun r3 =>
 (kj 1 2 1 3).bind fun r4 =>
 (kj 0 0 3 4).bind fun r5 =>
 (kj 1 0 1 1).bind fun r6 =>
 (ki ([1,0])).bind fun r8 =>
 (fP (bY.mk 2 ([r3,r6])) r8).bind fun r10 =>
 (ki ([1])).bind fun r12 =>
 (fP (bY.mk 2 ([r1,r2])) r12).bind fun r14 =>
 (ng (bY.mk 2 ([r1,r2])) ([30,0]) ([40,20])).bind fun r16 =>
 (if r16 then
  (ng (bY.mk 3 ([r3,r4])) ([6,3,0]) ([6,9,3])).bind fun r29 =>
  if r29 then
   (ng (bY.mk 1 ([r5])) ([1]) ([4])).bind fun r32 =>
   if r32 then
    (ng (bY.mk 0 ([])) ([]) ([])).bind fun r35 =>
    some r35
   else
    some false
  else
   some false
 else
  some false).bind fun s9j1 =>
 if s9j1 then
  if (r10.2==24) then
   if (r14.2==1) then
    (ki ([30,0])).bind fun r22 =>
    (ki ([40,21])).bind fun r24 =>
    (dS (bY.mk 2 ([r1,r2])) r22 r24).bind fun r26 =>
    some (!r26)
   else
    some false
  else
   some false
 else
  some false
def qh (p0:ak) (p1:Int):Option (Bool) :=
 if decide ((p0.aH.aa.length:Int)<=p1) then
  some (decide ((p0.aK.aa.length:Int)<=p1))
 else
  some false
def m0 (p0:bY):(Int)->Option ((Int)⊕((Unit)⊕(Bool)))
 | s3a =>
  (if decide (s3a<(p0.av.length:Int)) then
   some (decide (s3a<40))
  else
   some false).bind fun s12j3 =>
  if s12j3 then
   (P.idx p0.av s3a).bind fun x10 =>
   (qh x10.ba 6).bind fun r11 =>
   if (!r11) then
    some (.inr (.inr false))
   else
    some (.inl (IntKind.i64.wrap (s3a+1)))
  else
   some (.inr (.inl ()))
def kT (p0:bY):Option (Bool) :=
 (aY (m0 p0) 0).bind fun q=>match q with
 | (.inl _) =>
  if decide (p0.aD<=12) then
   some (decide ((p0.av.length:Int)<=40))
  else
   if decide (p0.aD>2000) then
    some (decide ((p0.av.length:Int)<=40))
   else
    some false
 | (.inr ra) =>
  some ra
def sD (p0:(List ak)) (p1:Int):(Int)->Option ((Int)⊕((Unit)⊕(Bool)))
 | s5a =>
  (if decide (s5a<(p0.length:Int)) then
   some (decide (s5a<=14))
  else
   some false).bind fun s13j3 =>
  if s13j3 then
   (P.idx p0 s5a).bind fun x10 =>
   (qh x10 p1).bind fun r11 =>
   if (!r11) then
    some (.inr (.inr false))
   else
    some (.inl (IntKind.i64.wrap (s5a+1)))
  else
   some (.inr (.inl ()))
def qk (p0:(List ak)) (p1:Int):Option (Bool) :=
 (aY (sD p0 p1) 0).bind fun q=>match q with
 | (.inl _) =>
  some (decide ((p0.length:Int)<=14))
 | (.inr ra) =>
  some ra
def sj (p0:bY) (p1:(List ak)):Option (Bool) :=
 (kT p0).bind fun r1 =>
 if r1 then
  (qk p1 4).bind fun r3 =>
  some r3
 else
  some false
def AD (p0:al) (p1:al):(Int)->Option ((Int)⊕((Unit)⊕(Bool)))
 | s5b =>
  if decide (s5b<(p0.aa.length:Int)) then
   (P.idx p0.aa s5b).bind fun x9 =>
   (P.idx p1.aa s5b).bind fun x10 =>
   if (x9 != x10) then
    some (.inr (.inr false))
   else
    some (.inl (IntKind.i64.wrap (s5b+1)))
  else
   some (.inr (.inl ()))
def qS (p0:al) (p1:al):Option (Bool) :=
 (if (p0.ag != p1.ag) then
  some true
 else
  some ((p0.aa.length:Int) != (p1.aa.length:Int))).bind fun s19j1 =>
 if s19j1 then
  some false
 else
  (aY (AD p0 p1) 0).bind fun q=>match q with
  | (.inl _) =>
   some true
  | (.inr rb) =>
   some rb
def jD (p0:al) (p1:al):Option (Int) :=
 (du p0).bind fun r1 =>
 (if (!r1) then
  some true
 else
  (du p1).bind fun r9 =>
  if (!r9) then
   some true
  else
   (qS p0 p1).bind fun r11 =>
   some r11).bind fun s17j1 =>
 if s17j1 then
  some 0
 else
  if (p0.ag != p1.ag) then
   if decide (p0.ag<p1.ag) then
    some (-1)
   else
    some 1
  else
   (nA p0.aa p1.aa).bind fun r6 =>
   if (r6==(decide (p0.ag>0))) then
    some (-1)
   else
    some 1
def mG (p0:ak):Option (Bool) :=
 (du p0.aH).bind fun r1 =>
 (if (!r1) then
  some true
 else
  (du p0.aK).bind fun r8 =>
  if (!r8) then
   some true
  else
   some (decide (p0.aK.ag<1))).bind fun s20j1 =>
 if s20j1 then
  some false
 else
  (og p0.aH p0.aK).bind fun r4 =>
  (sB 1).bind fun r5 =>
  (jD r4.1 r5).bind fun r6 =>
  some (r6==0)
def l5 (p0:(List ak)):(Int)->Option ((Int)⊕((Unit)⊕(Bool)))
 | s5a =>
  if decide (s5a<(p0.length:Int)) then
   (P.idx p0 s5a).bind fun x7 =>
   (mG x7).bind fun r8 =>
   if (!r8) then
    some (.inr (.inr false))
   else
    some (.inl (IntKind.i64.wrap (s5a+1)))
  else
   some (.inr (.inl ()))
def jE (p0:(List ak)) (p1:Int):Option (Bool) :=
 (aY (l5 p0) 0).bind fun q=>match q with
 | (.inl _) =>
  some ((p0.length:Int)==p1)
 | (.inr ra) =>
  some ra
def iO (p0:bY) (p1:(List ak)) (r6:(List Int)):(Int×(List Bool)×Int×(List Int)×Int×(List Int))->Option ((Int×(List Bool)×Int×(List Int)×Int×(List Int))⊕(((List Bool)×Int×(List Int)×Int×(List Int))⊕(Bool)))
 | (s14d,l12d,r13_0d,r13_1d,r13_2d,r13_3d) =>
  if decide (s14d<(r6.length:Int)) then
   (P.idx r6 s14d).bind fun x32 =>
   (if decide (x32<0) then
    some true
   else
    some (decide (x32>=p0.aD))).bind fun s107j6 =>
   if s107j6 then
    some (.inr (.inr false))
   else
    (P.idx l12d x32).bind fun x35 =>
    (P.idx p1 x32).bind fun x37 =>
    (kg (ak.mk (al.mk r13_0d r13_1d) (al.mk r13_2d r13_3d)) x37).bind fun r38 =>
    some (.inl (IntKind.i64.wrap (s14d+1),(l12d.set (x32).toNat true),r38.1.aH.ag,r38.1.aH.aa,r38.1.aK.ag,r38.1.aK.aa))
  else
   some (.inr (.inl (l12d,r13_0d,r13_1d,r13_2d,r13_3d)))
def iP (p0:bY) (p2:(List ak)) (l12dx:(List Bool)):(Int×Int×(List Int)×Int×(List Int))->Option ((Int×Int×(List Int)×Int×(List Int))⊕((Int×(List Int)×Int×(List Int))))
 | (s16g,r13_0g,r13_1g,r13_2g,r13_3g) =>
  if decide (s16g<(p0.av.length:Int)) then
   (P.idx p0.av s16g).bind fun x52 =>
   (P.idx l12dx x52.kM).bind fun x53 =>
   (if x53 then
    (P.idx l12dx x52.cR).bind fun x60 =>
    some (!x60)
   else
    some false).bind fun s144j9 =>
   if s144j9 then
    (P.idx p2 x52.cR).bind fun x56 =>
    (nd x52.ba x56).bind fun r57 =>
    (kg (ak.mk (al.mk r13_0g r13_1g) (al.mk r13_2g r13_3g)) r57.1).bind fun r58 =>
    some (.inl (IntKind.i64.wrap (s16g+1),r58.1.aH.ag,r58.1.aH.aa,r58.1.aK.ag,r58.1.aK.aa))
   else
    some (.inl (IntKind.i64.wrap (s16g+1),r13_0g,r13_1g,r13_2g,r13_3g))
  else
   some (.inr (r13_0g,r13_1g,r13_2g,r13_3g))
def iF (p0:bY) (p1:(List ak)) (p2:(List ak)):Option (Bool) :=
 (ox).bind fun r1 =>
 (sj p0 p1).bind fun r2 =>
 (if (!r2) then
  some true
 else
  (qk p2 6).bind fun r65 =>
  if (!r65) then
   some true
  else
   (iV p0).bind fun r67 =>
   if (!r67) then
    some true
   else
    (jE p1 p0.aD).bind fun r69 =>
    some (!r69)).bind fun s41j1 =>
 if s41j1 then
  some r1
 else
  (fP p0 p1).bind fun r5 =>
  (gC p0).bind fun r6 =>
  (dS p0 p1 p2).bind fun r7 =>
  if ((r6.length:Int)==0) then
   (if r1 then
    if (r5.2==0) then
     (dS p0 p1 r5.1).bind fun r12 =>
     if r12 then
      (nD p2 r5.1).bind fun r14 =>
      some (r7==r14)
     else
      some false
    else
     some false
   else
    some false).bind fun s6j2 =>
   some s6j2
  else
   (if (r5.2 != 24) then
    some true
   else
    some (decide ((r5.1.length:Int)>0))).bind fun s82j3 =>
   if s82j3 then
    some false
   else
    if (!r7) then
     some r1
    else
     (EC 1 p0.aD p0.aD false).bind fun x18 =>
     (ov 0).bind fun r20 =>
     (aY (iO p0 p1 r6) (0,x18,r20.aH.ag,r20.aH.aa,r20.aK.ag,r20.aK.aa)).bind fun q=>match q with
     | (.inl (l12dx,r13_0dx,r13_1dx,r13_2dx,r13_3dx)) =>
      (aY (iP p0 p2 l12dx) (0,r13_0dx,r13_1dx,r13_2dx,r13_3dx)).bind fun q=>match q with
      | (r13_0gx,r13_1gx,r13_2gx,r13_3gx) =>
       if r1 then
        (hY (ak.mk (al.mk r13_0gx r13_1gx) (al.mk r13_2gx r13_3gx))).bind fun r62 =>
        some (r62==0)
       else
        some false
     | (.inr rd) =>
      some rd
end Go.Proofs.Ytchndpjlijbplaa.P
namespace Go.Proofs.Ytchndpjlijbplaa.Am
open Go.RowKit Go.Proofs.Ytchndpjlijbplaa.P
set_option maxRecDepth 100000
set_option maxHeartbeats 4000000
set_option linter.unusedSimpArgs false
set_option linter.unusedVariables false
theorem vmt:type_of% (ai @Z0<|ai @Tj<|ai @Z1<|ai @Z2<|ai @Z3<|ai @Xq<|ai @Xr<|ai @QB<|ai @Xt<|ai @JO<|ai @Ei<|ai @Xu<|ai @JP<|ai @Xv<|ai @Xw<|ai @QC<|ai @Xx<|ai @JQ<|ai @Xy<|ai @JR<|ai @Xz<|ai @XA<|ai @XB<|ai @XC<|ai @QD<|ai @XD<|ai @XE<|ai @XF<|ai @Tg<|ai @Th<|@Ti):=⟨@Z0,@Tj,@Z1,@Z2,@Z3,@Xq,@Xr,@QB,@Xt,@JO,@Ei,@Xu,@JP,@Xv,@Xw,@QC,@Xx,@JQ,@Xy,@JR,@Xz,@XA,@XB,@XC,@QD,@XD,@XE,@XF,@Tg,@Th,@Ti⟩
def eB:iC al:=Ll (xM (eI .i64) (OM (eI .i64))) (fun x=>(x.ag,x.aa)) (by rintro⟨⟩ ⟨⟩ h;simpa using h)
theorem Ab (x:al):eB.cells x=[.int .i64 x.ag,.sl false false x.aa.length (ae (eI .i64) x.aa)]:=agq
theorem rN:eB.size=2:=agq
theorem Lx (x:al):al.mk x.ag x.aa=x:=agq
def az:iC ak:=Ll (xM eB eB) (fun x=>(x.aH,x.aK)) (by rintro⟨⟩ ⟨⟩ h;simpa using h)
theorem xO (x:ak):az.cells x=[.int .i64 x.aH.ag,.sl false false x.aH.aa.length (ae (eI .i64) x.aH.aa),.int .i64 x.aK.ag,.sl false false x.aK.aa.length (ae (eI .i64) x.aK.aa)]:=agq
theorem pI:az.size=4:=agq
theorem Gx (x:ak):ak.mk x.aH x.aK=x:=agq
def a8:iC dy:=Ll (xM (eI .i64) (xM (eI .i64) az)) (fun x=>(x.cR,x.kM,x.ba)) (by rintro⟨⟩ ⟨⟩ h;simpa using h)
theorem xP (x:dy):a8.cells x=[.int .i64 x.cR,.int .i64 x.kM,.int .i64 x.ba.aH.ag,.sl false false x.ba.aH.aa.length (ae (eI .i64) x.ba.aH.aa),.int .i64 x.ba.aK.ag,.sl false false x.ba.aK.aa.length (ae (eI .i64) x.ba.aK.aa)]:=agq
theorem pJ:a8.size=6:=agq
theorem Gy (x:dy):dy.mk x.cR x.kM x.ba=x:=agq
def nO:iC bY:=Ll (xM (eI .i64) (OM a8)) (fun x=>(x.aD,x.av)) (by rintro⟨⟩ ⟨⟩ h;simpa using h)
theorem Ac (x:bY):nO.cells x=[.int .i64 x.aD,.sl false false x.av.length (ae a8 x.av)]:=agq
theorem rO:nO.size=2:=agq
theorem Ly (x:bY):bY.mk x.aD x.av=x:=agq
def bo:iC dL:=Ll (xM (eI .i64) az) (fun x=>(x.ka,x.dD)) (by rintro⟨⟩ ⟨⟩ h;simpa using h)
theorem xQ (x:dL):bo.cells x=[.int .i64 x.ka,.int .i64 x.dD.aH.ag,.sl false false x.dD.aH.aa.length (ae (eI .i64) x.dD.aH.aa),.int .i64 x.dD.aK.ag,.sl false false x.dD.aK.aa.length (ae (eI .i64) x.dD.aK.aa)]:=agq
theorem pK:bo.size=5:=agq
theorem Gz (x:dL):dL.mk x.ka x.dD=x:=agq
def cF:iC aw:=Ll (xM az (OM bo)) (fun x=>(x.aO,x.bk)) (by rintro⟨⟩ ⟨⟩ h;simpa using h)
theorem mv (x:aw):cF.cells x=[.int .i64 x.aO.aH.ag,.sl false false x.aO.aH.aa.length (ae (eI .i64) x.aO.aH.aa),.int .i64 x.aO.aK.ag,.sl false false x.aO.aK.aa.length (ae (eI .i64) x.aO.aK.aa),.sl false false x.bk.length (ae bo x.bk)]:=agq
theorem kz:cF.size=5:=agq
def aF:iC aw:=Ll (xM az (Cs bo)) (fun x=>(x.aO,x.bk)) (by rintro⟨⟩ ⟨⟩ h;simpa using h)
theorem cV (x:aw):aF.cells x=[.int .i64 x.aO.aH.ag,.sl false false x.aO.aH.aa.length (ae (eI .i64) x.aO.aH.aa),.int .i64 x.aO.aK.ag,.sl false false x.aO.aK.aa.length (ae (eI .i64) x.aO.aK.aa),.nx (x.bk).length (ae bo (x.bk))]:=agq
theorem mu:aF.size=5:=agq
theorem Cw (x:aw):(aF.cells x).map Ev=cF.cells x:=agq
theorem Cv (x:aw):(aF.cells x).all (v7 5)=true:=by simp[cV,v7,fk,bN,Be,rM,uZ,xN,rN,pI,pJ,rO,pK,kz]
def aX:iC (Bool×aw):=abd cF aF rfl (by intro x y h;simp[mv,cV]at h)
theorem wx (x:aw):aX.cells (false,x)=[.int .i64 x.aO.aH.ag,.sl false false x.aO.aH.aa.length (ae (eI .i64) x.aO.aH.aa),.int .i64 x.aO.aK.ag,.sl false false x.aO.aK.aa.length (ae (eI .i64) x.aO.aK.aa),.nx (x.bk).length (ae bo (x.bk))]:=agq
theorem wy (x:aw):aX.cells (true,x)=[.int .i64 x.aO.aH.ag,.sl false false x.aO.aH.aa.length (ae (eI .i64) x.aO.aH.aa),.int .i64 x.aO.aK.ag,.sl false false x.aO.aK.aa.length (ae (eI .i64) x.aO.aK.aa),.sl false false x.bk.length (ae bo x.bk)]:=agq
theorem lI (x:aw):aX.cells (false,x)=aF.cells x:=agq
theorem Cu (x:aw):aX.cells (true,x)=cF.cells x:=agq
theorem mr:aX.size=5:=agq
theorem wz (x:aw):aw.mk x.aO x.bk=x:=agq
theorem Zx {l:List _} : (ae (eI .i64) l).length=l.length*1:=bN _ l
theorem QF {l:List _} : (ae (eI .i64) l).take (l.length*1)=ae (eI .i64) l:=by
 have:=ew (eI .i64) l l.length
 rw[afA]at this
 exact this
theorem XG {l:List _} {i:Nat} {x:_} : (ae (eI .i64) (l.set i x)).take (l.length*1)=ae (eI .i64) (l.set i x):=by
 have:=@QF (l.set i x)
 rwa [afz]at this
theorem Zy {l:List _} : (ae (eI .u8) l).length=l.length*1:=bN _ l
theorem QG {l:List _} : (ae (eI .u8) l).take (l.length*1)=ae (eI .u8) l:=by
 have:=ew (eI .u8) l l.length
 rw[afA]at this
 exact this
theorem XH {l:List _} {i:Nat} {x:_} : (ae (eI .u8) (l.set i x)).take (l.length*1)=ae (eI .u8) (l.set i x):=by
 have:=@QG (l.set i x)
 rwa [afz]at this
theorem Zz {l:List _} : (ae (Cs (eI .i64)) l).length=l.length*1:=bN _ l
theorem QH {l:List _} : (ae (Cs (eI .i64)) l).take (l.length*1)=ae (Cs (eI .i64)) l:=by
 have:=ew (Cs (eI .i64)) l l.length
 rw[afA]at this
 exact this
theorem XI {l:List _} {i:Nat} {x:_} : (ae (Cs (eI .i64)) (l.set i x)).take (l.length*1)=ae (Cs (eI .i64)) (l.set i x):=by
 have:=@QH (l.set i x)
 rwa [afz]at this
theorem ZA {l:List _} : (ae (OM (eI .i64)) l).length=l.length*1:=bN _ l
theorem QI {l:List _} : (ae (OM (eI .i64)) l).take (l.length*1)=ae (OM (eI .i64)) l:=by
 have:=ew (OM (eI .i64)) l l.length
 rw[afA]at this
 exact this
theorem XJ {l:List _} {i:Nat} {x:_} : (ae (OM (eI .i64)) (l.set i x)).take (l.length*1)=ae (OM (eI .i64)) (l.set i x):=by
 have:=@QI (l.set i x)
 rwa [afz]at this
theorem ZB {l:List _} : (ae mg l).length=l.length*1:=bN _ l
theorem QJ {l:List _} : (ae mg l).take (l.length*1)=ae mg l:=by
 have:=ew mg l l.length
 rw[afA]at this
 exact this
theorem XK {l:List _} {i:Nat} {x:_} : (ae mg (l.set i x)).take (l.length*1)=ae mg (l.set i x):=by
 have:=@QJ (l.set i x)
 rwa [afz]at this
theorem ZC {l:List _} : (ae az l).length=l.length*4:=bN _ l
theorem QK {l:List _} : (ae az l).take (l.length*4)=ae az l:=by
 have:=ew az l l.length
 rw[afA]at this
 exact this
theorem XL {l:List _} {i:Nat} {x:_} : (ae az (l.set i x)).take (l.length*4)=ae az (l.set i x):=by
 have:=@QK (l.set i x)
 rwa [afz]at this
theorem ZD {l:List _} : (ae a8 l).length=l.length*6:=bN _ l
theorem QL {l:List _} : (ae a8 l).take (l.length*6)=ae a8 l:=by
 have:=ew a8 l l.length
 rw[afA]at this
 exact this
theorem XM {l:List _} {i:Nat} {x:_} : (ae a8 (l.set i x)).take (l.length*6)=ae a8 (l.set i x):=by
 have:=@QL (l.set i x)
 rwa [afz]at this
theorem ZE {l:List _} : (ae cF l).length=l.length*5:=bN _ l
theorem QM {l:List _} : (ae cF l).take (l.length*5)=ae cF l:=by
 have:=ew cF l l.length
 rw[afA]at this
 exact this
theorem XN {l:List _} {i:Nat} {x:_} : (ae cF (l.set i x)).take (l.length*5)=ae cF (l.set i x):=by
 have:=@QM (l.set i x)
 rwa [afz]at this
theorem ZF {l:List _} : (ae aX l).length=l.length*5:=bN _ l
theorem QN {l:List _} : (ae aX l).take (l.length*5)=ae aX l:=by
 have:=ew aX l l.length
 rw[afA]at this
 exact this
theorem XO {l:List _} {i:Nat} {x:_} : (ae aX (l.set i x)).take (l.length*5)=ae aX (l.set i x):=by
 have:=@QN (l.set i x)
 rwa [afz]at this
theorem ZG {l:List _} : (ae aF l).length=l.length*5:=bN _ l
theorem QO {l:List _} : (ae aF l).take (l.length*5)=ae aF l:=by
 have:=ew aF l l.length
 rw[afA]at this
 exact this
theorem XP {l:List _} {i:Nat} {x:_} : (ae aF (l.set i x)).take (l.length*5)=ae aF (l.set i x):=by
 have:=@QO (l.set i x)
 rwa [afz]at this
theorem Wy {l:List _} : (ae bo l).length=l.length*5:=bN _ l
theorem JS {l:List _} : (ae bo l).take (l.length*5)=ae bo l:=by
 have:=ew bo l l.length
 rw[afA]at this
 exact this
theorem Tl {l:List _} {i:Nat} {x:_} : (ae bo (l.set i x)).take (l.length*5)=ae bo (l.set i x):=by
 have:=@JS (l.set i x)
 rwa [afz]at this
theorem vme:type_of% (ai @Cr<|ai @Aa<|ai @Ct<|ai @y8<|ai @Be<|ai @rM<|ai @uZ<|ai @xN<|ai @xR<|ai @uY<|ai @tU<|ai @cV<|ai @mu<|ai @wx<|ai @wy<|ai @mr<|ai @Ab<|ai @rN<|ai @xO<|ai @pI<|ai @xP<|ai @pJ<|ai @Ac<|ai @rO<|ai @xQ<|ai @pK<|ai @mv<|@kz):=⟨@Cr,@Aa,@Ct,@y8,@Be,@rM,@uZ,@xN,@xR,@uY,@tU,@cV,@mu,@wx,@wy,@mr,@Ab,@rN,@xO,@pI,@xP,@pJ,@Ac,@rO,@xQ,@pK,@mv,@kz⟩
theorem vml:type_of% (ai @aL<|ai @Lx<|ai @Gx<|ai @Gy<|ai @Ly<|ai @Gz<|ai @wz<|ai @Zx<|ai @QF<|ai @XG<|ai @Zy<|ai @QG<|ai @XH<|ai @Zz<|ai @QH<|ai @XI<|ai @ZA<|ai @QI<|ai @XJ<|ai @ZB<|ai @QJ<|ai @XK<|ai @ZC<|ai @QK<|ai @XL<|ai @ZD<|ai @QL<|ai @XM<|ai @ZE<|ai @QM<|ai @XN<|ai @ZF<|ai @QN<|ai @XO<|ai @ZG<|ai @QO<|ai @XP<|ai @Wy<|ai @JS<|@Tl):=⟨@aL,@Lx,@Gx,@Gy,@Ly,@Gz,@wz,@Zx,@QF,@XG,@Zy,@QG,@XH,@Zz,@QH,@XI,@ZA,@QI,@XJ,@ZB,@QJ,@XK,@ZC,@QK,@XL,@ZD,@QL,@XM,@ZE,@QM,@XN,@ZF,@QN,@XO,@ZG,@QO,@XP,@Wy,@JS,@Tl⟩
theorem w:type_of% (ai @v<|ai @vmt<|ai @vme<|ai @vml<|ai @vn<|@vi):=⟨@v,@vmt,@vme,@vml,@vn,@vi⟩
theorem bI:type_of% (ai @vme<|ai @afp<|ai @aff<|ai @ad1<|ai @afq<|@aeU):=⟨@vme,@afp,@aff,@ad1,@afq,@aeU⟩
noncomputable def kJ:=fX (fU (mL (eI .i64))) (fun x:(List Int)=>gG x) (fun r:(List Int) =>.clean (.sl false false r.length (ae (eI .i64) r)))
theorem fM (p0:(List Int)):kJ none [.sl false false p0.length (ae (eI .i64) p0)]=(gG p0).map fun r:(List Int)=>(.clean (.sl false false r.length (ae (eI .i64) r)),none):=aU _ _ _ (p0)
theorem P9 (p0:(List Int)) (r:(List Int)) (hh:gG p0=some r):bc .clean tab a6 FU Try.f106 none [.sl false false p0.length (ae (eI .i64) p0)]=some (.clean (.sl false false r.length (ae (eI .i64) r)),none):=by
 refine aC rfl Try.ntmps106 Try.results106 ?_
 unfold gG at hh
 try simp only[w,seval]
 obtain⟨o4,ho4,hh⟩:=ah hh
 refine aB (fun s t H e=>match s with|s3a=>t 0=.sl false false p0.length (ae (eI .i64) p0)∧t 3=.int .i64 s3a) (fun o x t H e=>match o with|s3ax=>x=.exit 0∧t 0=.sl false false p0.length (ae (eI .i64) p0)∧t 3=.int .i64 s3ax) ho4 ?_ ?_ ?_
 ·refine⟨?_,?_⟩
  all_goals first|rfl|(simp only[w,seval]<;>rfl)
 ·rintro s3a t H e Za c hh
  simp only[uv]at hh
  try simp only[w,seval,Za]
  refine sp dp hh (fun _ hh =>?_) (fun _ hh =>?_)
  ·obtain⟨x6,hx6,hh⟩:=ah hh
   have ax6:=bQ (eI .i64) hx6
   simp only[bI]at ax6
   try simp only[w,seval,Za,ax6]
   refine sp aq hh (fun _ hh =>?_) (fun _ hh =>?_)
   ·cases hh
    try simp only[w,seval,Za,ax6]
    refine j6 ?_
    refine⟨?_,?_⟩
    all_goals first|rfl|(simp only[w,seval,Za,ax6]<;>rfl)
   ·cases hh
    try simp only[w,seval,Za,ax6]
    refine lj ?_
    refine⟨rfl,⟨?_,?_⟩⟩
    all_goals first|rfl|(simp only[w,seval,Za,ax6]<;>rfl)
  ·cases hh
   try simp only[w,seval,Za]
   refine lj ?_
   refine⟨rfl,⟨?_,?_⟩⟩
   all_goals first|rfl|(simp only[w,seval,Za]<;>rfl)
 ·rintro x t H e hx
  obtain⟨s3ax,rfl⟩:∃z,z=o4:=⟨_,rfl⟩
  dsimp only at hx hh
  obtain⟨rfl,Zax⟩:=hx
  obtain⟨x8,hx8,hh⟩:=ah hh
  obtain⟨q9a,q9b,q9c,q9d,q9e⟩:=JM (eI .i64) hx8
  simp only[bI]at q9e
  obtain⟨x10,hx10,hh⟩:=ah hh
  obtain⟨q11a,q11b,q11c⟩:=Bb hx10
  replace q11a:=q11a.symm
  subst q11a
  cases hh
  try simp only[w,seval,Zax,q9a,q9b,q9c,q9d,q9e,q11b,q11c]
theorem ny:b6 Try.prog 106 kJ:=b6.of (mode := .clean) tok bA.none mixed Try.func106 (by kernel_rfl) ⟨by kernel_rfl,by kernel_rfl⟩ (fun _=>afg (by kernel_rfl)) (fun x r h=>P9 x r h)
noncomputable def ml:=fX (jh (aI .i64) (fU (mL (eI .i64)))) (fun x:Int×(List Int)=>fO x.1 x.2) (fun r:al =>.clean (.agg [.int .i64 r.ag,.sl false false r.aa.length (ae (eI .i64) r.aa)]))
theorem jB (p0:Int) (p1:(List Int)):ml none [.int .i64 p0,.sl false false p1.length (ae (eI .i64) p1)]=(fO p0 p1).map fun r:al=>(.clean (.agg [.int .i64 r.ag,.sl false false r.aa.length (ae (eI .i64) r.aa)]),none):=aU _ _ _ (p0,p1)
noncomputable def sb:Env:=(Am.ext a6 106 false kJ)
theorem L2:bA Try.prog sb:=(bA.none.add ny false)
theorem xq:type_of% (ai @w<|ai @fM<|@sb.eq_1):=⟨@w,@fM,@sb.eq_1⟩
theorem P6 (p0:Int) (p1:(List Int)) (r:al) (hh:fO p0 p1=some r):bc .clean tab sb FU Try.f86 none [.int .i64 p0,.sl false false p1.length (ae (eI .i64) p1)]=some (.clean (.agg [.int .i64 r.ag,.sl false false r.aa.length (ae (eI .i64) r.aa)]),none):=by
 refine aC rfl Try.ntmps86 Try.results86 ?_
 unfold fO at hh
 obtain⟨r1,hr1,hh⟩:=ah hh
 try simp only[xq,seval,hr1]
 refine sp aq hh (fun _ hh =>?_) (fun _ hh =>?_)
 ·cases hh
  try simp only[xq,seval,hr1]
 ·cases hh
  try simp only[xq,seval,hr1]
theorem pY:b6 Try.prog 86 ml:=b6.of (mode := .clean) tok L2 mixed Try.func86 (by kernel_rfl) ⟨by kernel_rfl,by kernel_rfl⟩ (fun _=>afg (by kernel_rfl)) (fun x r h=>P6 x.1 x.2 r h)
noncomputable def xw:=fX (fU (aI .i64)) (fun x:Int=>sB x) (fun r:al =>.clean (.agg [.int .i64 r.ag,.sl false false r.aa.length (ae (eI .i64) r.aa)]))
theorem yu (p0:Int):xw none [.int .i64 p0]=(sB p0).map fun r:al=>(.clean (.agg [.int .i64 r.ag,.sl false false r.aa.length (ae (eI .i64) r.aa)]),none):=aU _ _ _ (p0)
noncomputable def xX:Env:=(Am.ext a6 86 false ml)
theorem T0:bA Try.prog xX:=(bA.none.add pY false)
theorem eu:type_of% (ai @w<|ai @jB<|@xX.eq_1):=⟨@w,@jB,@xX.eq_1⟩
theorem WD (p0:Int) (r:al) (hh:sB p0=some r):bc .clean tab xX FU Try.f58 none [.int .i64 p0]=some (.clean (.agg [.int .i64 r.ag,.sl false false r.aa.length (ae (eI .i64) r.aa)]),none):=by
 refine aC rfl Try.ntmps58 Try.results58 ?_
 unfold sB at hh
 try simp only[eu,seval]
 refine sp aq hh (fun _ hh =>?_) (fun _ hh =>?_)
 ·cases hh
  try simp only[eu,seval]
 ·try simp only[eu,seval]
  obtain⟨o2,ho2,hh⟩:=ah hh
  refine kr 0 (fun s t H e=>match s with|s3j1=>∃v2j1:Nat,t 0=.int .i64 p0∧t 2=.ptr 2 v2j1 0∧t 3=.int .i64 s3j1∧H 2=some ⟨v2j1,39,[.int .i64 0,.sl true true 0 []],false,false,false⟩) (fun s=>s=o2) ?_ ?_
  ·rintro s3j1 t H e ⟨v2j1,Zj1⟩ rfl
   try dsimp only at hh
   try simp only[eu,seval,Zj1]
   obtain⟨o15,ho15,hh⟩:=ah hh
   refine aB (fun s t H e=>match s with|(s0b,l4b)=>∃v2b:Nat,∃v4b:Nat,t 0=.int .i64 s0b∧t 2=.ptr 2 v2b 0∧t 3=.int .i64 s3j1∧t 4=.buf 4 v4b 1 0 (l4b).length∧H 2=some ⟨v2b,39,[.int .i64 0,.sl true true 0 []],false,false,false⟩∧H 4=some ⟨v4b,3,ae (eI .i64) l4b,false,true,false⟩) (fun o x t H e=>match o with|l4bx=>x=.exit 0∧∃v2bx:Nat,∃v4bx:Nat,t 2=.ptr 2 v2bx 0∧t 3=.int .i64 s3j1∧t 4=.buf 4 v4bx 1 0 (l4bx).length∧H 2=some ⟨v2bx,39,[.int .i64 0,.sl true true 0 []],false,false,false⟩∧H 4=some ⟨v4bx,3,ae (eI .i64) l4bx,false,true,false⟩) ho15 ?_ ?_ ?_
   ·refine⟨v2j1,e,?_,?_,?_,?_,?_,?_⟩
    all_goals first|rfl|(simp only[eu,seval,Zj1]<;>rfl)
   ·rintro⟨s0b,l4b⟩ t H e ⟨v2b,v4b,Zb⟩ c hh
    simp only[vL]at hh
    try simp only[eu,seval,Zb]
    refine sp aq hh (fun _ hh =>?_) (fun _ hh =>?_)
    ·obtain⟨x17,hx17,hh⟩:=ah hh
     have q18:=yi hx17
     try simp only[eu,seval,Zb,q18]
     refine sp aq hh (fun _ hh =>?_) (fun _ hh =>?_)
     ·obtain⟨x20,hx20,hh⟩:=ah hh
      obtain⟨q21a,q21b,q21c,q21d⟩:=jg (eI .i64) hx20
      simp only[bI]at q21b
      obtain⟨x22,hx22,hh⟩:=ah hh
      have q23:=rK hx22
      cases hh
      try simp only[eu,seval,Zb,q18,q21a,q21b,q21c,q21d,q23]
      refine j6 ?_
      refine⟨v2b,e+1+1+1+1,?_,?_,?_,?_,?_,?_⟩
      all_goals first|rfl|(simp only[eu,seval,Zb,q18,q21a,q21b,q21c,q21d,q23]<;>rfl)
     ·obtain⟨x24,hx24,hh⟩:=ah hh
      obtain⟨q25a,q25b,q25c,q25d⟩:=jg (eI .i64) hx24
      simp only[bI]at q25b
      obtain⟨x26,hx26,hh⟩:=ah hh
      have q27:=rK hx26
      cases hh
      try simp only[eu,seval,Zb,q18,q25a,q25b,q25c,q25d,q27]
      refine j6 ?_
      refine⟨v2b,e+1+1+1,?_,?_,?_,?_,?_,?_⟩
      all_goals first|rfl|(simp only[eu,seval,Zb,q18,q25a,q25b,q25c,q25d,q27]<;>rfl)
    ·cases hh
     try simp only[eu,seval,Zb]
     refine lj ?_
     refine⟨rfl,⟨v2b,v4b,?_,?_,?_,?_,?_⟩⟩
     all_goals first|rfl|(simp only[eu,seval,Zb]<;>rfl)
   ·rintro x t H e hx
    obtain⟨l4bx,rfl⟩:∃z,z=o15:=⟨_,rfl⟩
    dsimp only at hx hh
    obtain⟨rfl,⟨v2bx,v4bx,Zbx⟩⟩:=hx
    obtain⟨r28,hr28,hh⟩:=ah hh
    cases hh
    try simp only[eu,seval,Zbx,hr28]
  ·clear hh
   have hh:=ho2
   try simp only[eu,seval]
   refine sp aq hh (fun _ hh =>?_) (fun _ hh =>?_)
   ·cases hh
    try simp only[eu,seval]
    rw[au]
    refine⟨_,rfl,?_⟩
    refine⟨0,?_,?_,?_,?_⟩
    all_goals first|rfl|(simp only[eu,seval]<;>rfl)
   ·cases hh
    try simp only[eu,seval]
    rw[au]
    refine⟨_,rfl,?_⟩
    refine⟨0,?_,?_,?_,?_⟩
    all_goals first|rfl|(simp only[eu,seval]<;>rfl)
theorem Hr:b6 Try.prog 58 xw:=b6.of (mode := .clean) tok T0 mixed Try.func58 (by kernel_rfl) ⟨by kernel_rfl,by kernel_rfl⟩ (fun _=>afg (by kernel_rfl)) (fun x r h=>WD x r h)
noncomputable def ik:=fX (fU (cX eB)) (fun x:al=>du x) (fun r:Bool =>.clean (.bool r))
theorem eC (p0_0:Int) (p0_1:(List Int)):ik none [.agg [.int .i64 p0_0,.sl false false p0_1.length (ae (eI .i64) p0_1)]]=(du (al.mk p0_0 p0_1)).map fun r:Bool=>(.clean (.bool r),none):=aU _ _ _ ((al.mk p0_0 p0_1))
theorem M4 (p0:al) (r:Bool) (hh:du p0=some r):bc .clean tab a6 FU Try.f55 none [.agg [.int .i64 p0.ag,.sl false false p0.aa.length (ae (eI .i64) p0.aa)]]=some (.clean (.bool r),none):=by
 refine aC rfl Try.ntmps55 Try.results55 ?_
 unfold du at hh
 try simp only[w,seval]
 obtain⟨o5,ho5,hh⟩:=ah hh
 refine aB (fun s t H e=>match s with|s3a=>∃v1a:Nat,t 1=.ptr 1 v1a 0∧t 3=.int .i64 s3a∧H 1=some ⟨v1a,39,[.int .i64 p0.ag,.sl false false p0.aa.length (ae (eI .i64) p0.aa)],false,false,false⟩) (fun o x t H e=>match o with|(.inl _)=>x=.exit 0∧∃v1ax:Nat,t 1=.ptr 1 v1ax 0∧H 1=some ⟨v1ax,39,[.int .i64 p0.ag,.sl false false p0.aa.length (ae (eI .i64) p0.aa)],false,false,false⟩|(.inr r)=>x=.ret∧jo .clean tab none [.tmp 2] ⟨t,EH H,e⟩=some (.clean (.bool r),none)) ho5 ?_ ?_ ?_
 ·refine⟨0,?_,?_,?_⟩
  all_goals first|rfl|(simp only[w,seval]<;>rfl)
 ·rintro s3a t H e ⟨v1a,Za⟩ c hh
  simp only[oh]at hh
  try simp only[w,seval,Za]
  refine sp aq hh (fun _ hh =>?_) (fun _ hh =>?_)
  ·obtain⟨x7,hx7,hh⟩:=ah hh
   have ax7:=bQ (eI .i64) hx7
   simp only[bI]at ax7
   try simp only[w,seval,Za,ax7]
   refine sp bd hh (fun _ hh =>?_) (fun _ hh =>?_)
   ·cases hh
    try simp only[w,seval,Za,ax7]
    refine G2 ⟨rfl,?_⟩
    try simp only[w,seval,Za,ax7]
   ·have ax7:=bQ (eI .i64) hx7
    simp only[bI]at ax7
    try simp only[w,seval,Za,ax7,ax7]
    refine sp aq hh (fun _ hh =>?_) (fun _ hh =>?_)
    ·cases hh
     try simp only[w,seval,Za,ax7,ax7]
     refine G2 ⟨rfl,?_⟩
     try simp only[w,seval,Za,ax7,ax7]
    ·cases hh
     try simp only[w,seval,Za,ax7,ax7]
     refine j6 ?_
     refine⟨v1a,?_,?_,?_⟩
     all_goals first|rfl|(simp only[w,seval,Za,ax7,ax7]<;>rfl)
  ·cases hh
   try simp only[w,seval,Za]
   refine lj ?_
   refine⟨rfl,⟨v1a,?_,?_⟩⟩
   all_goals first|rfl|(simp only[w,seval,Za]<;>rfl)
 ·rintro x t H e hx
  rcases o5 with _|ra
  ·dsimp only at hx hh
   obtain⟨rfl,⟨v1ax,Zax⟩⟩:=hx
   try simp only[w,seval,Zax]
   obtain⟨o10,ho10,hh⟩:=ah hh
   refine bt 0 (fun s t H e=>match s with|s44j2=>∃v1j2:Nat,t 1=.ptr 1 v1j2 0∧t 4=.int .i64 (p0.aa.length:Int)∧t 44=.bool s44j2∧H 1=some ⟨v1j2,39,[.int .i64 p0.ag,.sl false false p0.aa.length (ae (eI .i64) p0.aa)],false,false,false⟩) (fun s=>s=o10) ?_ ?_
   ·rintro s44j2 t H e ⟨v1j2,Zj2⟩ rfl
    try dsimp only at hh
    try simp only[w,seval,Zj2]
    refine sp aq hh (fun _ hh =>?_) (fun _ hh =>?_)
    ·cases hh
     try simp only[w,seval,Zj2]
    ·try simp only[w,seval,Zj2]
     refine sp bd hh (fun _ hh =>?_) (fun _ hh =>?_)
     ·cases hh
      try simp only[w,seval,Zj2]
     ·obtain⟨x13,hx13,hh⟩:=ah hh
      have ax13:=bQ (eI .i64) hx13
      simp only[bI]at ax13
      cases hh
      try simp only[w,seval,Zj2,ax13]
   ·clear hh
    have hh:=ho10
    try simp only[w,seval,Zax]
    refine sp bd hh (fun _ hh =>?_) (fun _ hh =>?_)
    ·cases hh
     try simp only[w,seval,Zax]
     rw[au]
     refine⟨_,rfl,?_⟩
     refine⟨v1ax,?_,?_,?_,?_⟩
     all_goals first|rfl|(simp only[w,seval,Zax]<;>rfl)
    ·try simp only[w,seval,Zax]
     refine sp bd hh (fun _ hh =>?_) (fun _ hh =>?_)
     ·cases hh
      try simp only[w,seval,Zax]
      rw[au]
      refine⟨_,rfl,?_⟩
      refine⟨v1ax,?_,?_,?_,?_⟩
      all_goals first|rfl|(simp only[w,seval,Zax]<;>rfl)
     ·cases hh
      try simp only[w,seval,Zax]
      rw[au]
      refine⟨_,rfl,?_⟩
      refine⟨v1ax,?_,?_,?_,?_⟩
      all_goals first|rfl|(simp only[w,seval,Zax]<;>rfl)
  ·dsimp only at hx hh
   obtain⟨rfl,hE⟩:=hx
   cases hh
   try simp only[bJ,bq,bW,ep,eo,dk,dm]
   exact hE
theorem jY:b6 Try.prog 55 ik:=b6.of (mode := .clean) tok bA.none mixed Try.func55 (by kernel_rfl) ⟨by kernel_rfl,by kernel_rfl⟩ (fun _=>afg (by kernel_rfl)) (fun x r h=>M4 x r h)
noncomputable def yR:=fX (fU (cX eB)) (fun x:al=>qe x) (fun r:al =>.clean (.agg [.int .i64 r.ag,.sl false false r.aa.length (ae (eI .i64) r.aa)]))
theorem HG (p0_0:Int) (p0_1:(List Int)):yR none [.agg [.int .i64 p0_0,.sl false false p0_1.length (ae (eI .i64) p0_1)]]=(qe (al.mk p0_0 p0_1)).map fun r:al=>(.clean (.agg [.int .i64 r.ag,.sl false false r.aa.length (ae (eI .i64) r.aa)]),none):=aU _ _ _ ((al.mk p0_0 p0_1))
noncomputable def vt:Env:=(Am.ext (Am.ext a6 55 false ik) 86 false ml)
theorem PF:bA Try.prog vt:=((bA.none.add jY false).add pY false)
theorem zD:type_of% (ai @w<|ai @eC<|ai @jB<|@vt.eq_1):=⟨@w,@eC,@jB,@vt.eq_1⟩
theorem Un (p0:al) (r:al) (hh:qe p0=some r):bc .clean tab vt FU Try.f100 none [.agg [.int .i64 p0.ag,.sl false false p0.aa.length (ae (eI .i64) p0.aa)]]=some (.clean (.agg [.int .i64 r.ag,.sl false false r.aa.length (ae (eI .i64) r.aa)]),none):=by
 refine aC rfl Try.ntmps100 Try.results100 ?_
 unfold qe at hh
 obtain⟨r1,hr1,hh⟩:=ah hh
 try simp only[zD,seval,hr1]
 refine sp aq hh (fun _ hh =>?_) (fun _ hh =>?_)
 ·cases hh
  try simp only[zD,seval,hr1]
 ·obtain⟨r3,hr3,hh⟩:=ah hh
  cases hh
  try simp only[zD,seval,hr1,hr3]
theorem Ql:b6 Try.prog 100 yR:=b6.of (mode := .clean) tok PF mixed Try.func100 (by kernel_rfl) ⟨by kernel_rfl,by kernel_rfl⟩ (fun _=>afg (by kernel_rfl)) (fun x r h=>Un x r h)
noncomputable def kY:=fX (jh (mL (eI .i64)) (fU (aI .i64))) (fun x:(List Int)×Int=>gn x.1 x.2) (fun r:Int =>.clean (.int .i64 r))
theorem iz (p0:(List Int)) (p1:Int):kY none [.sl false false p0.length (ae (eI .i64) p0),.int .i64 p1]=(gn p0 p1).map fun r:Int=>(.clean (.int .i64 r),none):=aU _ _ _ (p0,p1)
theorem M5 (p0:(List Int)) (p1:Int) (r:Int) (hh:gn p0 p1=some r):bc .clean tab a6 FU Try.f109 none [.sl false false p0.length (ae (eI .i64) p0),.int .i64 p1]=some (.clean (.int .i64 r),none):=by
 refine aC rfl Try.ntmps109 Try.results109 ?_
 unfold gn at hh
 try simp only[w,seval]
 refine sp aq hh (fun _ hh =>?_) (fun _ hh =>?_)
 ·obtain⟨x2,hx2,hh⟩:=ah hh
  have ax2:=bQ (eI .i64) hx2
  simp only[bI]at ax2
  cases hh
  try simp only[w,seval,ax2]
 ·cases hh
  try simp only[w,seval]
theorem od:b6 Try.prog 109 kY:=b6.of (mode := .clean) tok bA.none mixed Try.func109 (by kernel_rfl) ⟨by kernel_rfl,by kernel_rfl⟩ (fun _=>afg (by kernel_rfl)) (fun x r h=>M5 x.1 x.2 r h)
noncomputable def tD:=fX (jh (mL (eI .i64)) (fU (mL (eI .i64)))) (fun x:(List Int)×(List Int)=>lr x.1 x.2) (fun r:(List Int) =>.clean (.sl false false r.length (ae (eI .i64) r)))
theorem ur (p0:(List Int)) (p1:(List Int)):tD none [.sl false false p0.length (ae (eI .i64) p0),.sl false false p1.length (ae (eI .i64) p1)]=(lr p0 p1).map fun r:(List Int)=>(.clean (.sl false false r.length (ae (eI .i64) r)),none):=aU _ _ _ (p0,p1)
noncomputable def pT:Env:=(Am.ext (Am.ext a6 106 false kJ) 109 false kY)
theorem I6:bA Try.prog pT:=((bA.none.add ny false).add od false)
theorem bT:type_of% (ai @w<|ai @fM<|ai @iz<|@pT.eq_1):=⟨@w,@fM,@iz,@pT.eq_1⟩
theorem M7 (p0:(List Int)) (p1:(List Int)) (r:(List Int)) (hh:lr p0 p1=some r):bc .clean tab pT FU Try.f107 none [.sl false false p0.length (ae (eI .i64) p0),.sl false false p1.length (ae (eI .i64) p1)]=some (.clean (.sl false false r.length (ae (eI .i64) r)),none):=by
 refine aC rfl Try.ntmps107 Try.results107 ?_
 unfold lr at hh
 obtain⟨x1,hx1,hh⟩:=ah hh
 obtain⟨q2a,q2b,q2c,q2d,q2e⟩:=mk_one (eI .i64) hx1
 simp only[bI]at q2d
 try simp only[bT,seval,q2a,q2b,q2c,q2d,q2e]
 obtain⟨o27,ho27,hh⟩:=ah hh
 refine aB (fun s t H e=>match s with|(s6a,l5a)=>∃v5a:Nat,t 0=.sl false false p0.length (ae (eI .i64) p0)∧t 1=.sl false false p1.length (ae (eI .i64) p1)∧t 5=.buf 5 v5a 1 0 (l5a).length∧t 6=.int .i64 s6a∧H 5=some ⟨v5a,3,ae (eI .i64) l5a,false,true,false⟩) (fun o x t H e=>match o with|l5ax=>x=.exit 0∧∃v5ax:Nat,t 5=.buf 5 v5ax 1 0 (l5ax).length∧H 5=some ⟨v5ax,3,ae (eI .i64) l5ax,false,true,false⟩) ho27 ?_ ?_ ?_
 ·refine⟨1,?_,?_,?_,?_,?_⟩
  all_goals first|rfl|(simp only[bT,seval,q2a,q2b,q2c,q2d,q2e]<;>rfl)
 ·rintro⟨s6a,l5a⟩ t H e ⟨v5a,Za⟩ c hh
  simp only[ot]at hh
  try simp only[bT,seval,q2a,q2b,q2c,q2d,q2e,Za]
  refine sp aq hh (fun _ hh =>?_) (fun _ hh =>?_)
  ·try simp only[bT,seval,q2a,q2b,q2c,q2d,q2e,Za]
   obtain⟨o40,ho40,hh⟩:=ah hh
   refine aB (fun s t H e=>match s with|(s7e,s8e,l5e)=>∃v5e:Nat,t 0=.sl false false p0.length (ae (eI .i64) p0)∧t 1=.sl false false p1.length (ae (eI .i64) p1)∧t 5=.buf 5 v5e 1 0 (l5e).length∧t 6=.int .i64 s6a∧t 7=.int .i64 s7e∧t 8=.int .i64 s8e∧H 5=some ⟨v5e,3,ae (eI .i64) l5e,false,true,false⟩) (fun o x t H e=>match o with|l5ex=>x=.exit 2∧∃v5ex:Nat,t 0=.sl false false p0.length (ae (eI .i64) p0)∧t 1=.sl false false p1.length (ae (eI .i64) p1)∧t 5=.buf 5 v5ex 1 0 (l5ex).length∧t 6=.int .i64 s6a∧H 5=some ⟨v5ex,3,ae (eI .i64) l5ex,false,true,false⟩) ho40 ?_ ?_ ?_
   ·refine⟨v5a,?_,?_,?_,?_,?_,?_,?_⟩
    all_goals first|rfl|(simp only[bT,seval,q2a,q2b,q2c,q2d,q2e,Za]<;>rfl)
   ·rintro⟨s7e,s8e,l5e⟩ t H e ⟨v5e,Ze⟩ c hh
    simp only[ou]at hh
    try simp only[bT,seval,q2a,q2b,q2c,q2d,q2e,Ze]
    obtain⟨o41,ho41,hh⟩:=ah hh
    refine bt 0 (fun s t H e=>match s with|s29j7=>∃v5j7:Nat,t 0=.sl false false p0.length (ae (eI .i64) p0)∧t 1=.sl false false p1.length (ae (eI .i64) p1)∧t 5=.buf 5 v5j7 1 0 (l5e).length∧t 6=.int .i64 s6a∧t 7=.int .i64 s7e∧t 8=.int .i64 s8e∧t 29=.bool s29j7∧H 5=some ⟨v5j7,3,ae (eI .i64) l5e,false,true,false⟩) (fun s=>s=o41) ?_ ?_
    ·rintro s29j7 t H e ⟨v5j7,Zj7⟩ rfl
     try dsimp only at hh
     try simp only[bT,seval,q2a,q2b,q2c,q2d,q2e,Zj7]
     refine sp aq hh (fun _ hh =>?_) (fun _ hh =>?_)
     ·obtain⟨x43,hx43,hh⟩:=ah hh
      have ax43:=bQ (eI .i64) hx43
      simp only[bI]at ax43
      obtain⟨x44,hx44,hh⟩:=ah hh
      have ax44:=bQ (eI .i64) hx44
      simp only[bI]at ax44
      obtain⟨r45,hr45,hh⟩:=ah hh
      try simp only[bT,seval,q2a,q2b,q2c,q2d,q2e,Zj7,ax43,ax44,hr45]
      refine bn (by kernel_rfl) ?_
      obtain⟨x46,hx46,hh⟩:=ah hh
      have q47:=yi hx46
      have ax43:=bQ (eI .i64) hx43
      simp only[bI]at ax43
      have p48:=eO (eI .i64) (x':=x46) (fo:=0) (cs:=[.int .i64 x46]) hx43 rfl (afg rfl)
      simp only[bI,Nat.add_zero]at p48
      have up48:=p48
      simp only[putCells,List.length_cons,List.length_nil,aen,Nat.reduceAdd]at up48
      obtain⟨x49,hx49,hh⟩:=ah hh
      have q50:=rK hx49
      cases hh
      try simp only[bT,seval,q2a,q2b,q2c,q2d,q2e,Zj7,ax43,ax44,hr45,q47,ax43,p48,up48,q50]
      refine j6 ?_
      refine⟨v5j7,?_,?_,?_,?_,?_,?_,?_⟩
      all_goals first|rfl|(simp only[bT,seval,q2a,q2b,q2c,q2d,q2e,Zj7,ax43,ax44,hr45,q47,ax43,p48,up48,q50]<;>rfl)
     ·cases hh
      try simp only[bT,seval,q2a,q2b,q2c,q2d,q2e,Zj7]
      refine lj ?_
      refine⟨rfl,⟨v5j7,?_,?_,?_,?_,?_⟩⟩
      all_goals first|rfl|(simp only[bT,seval,q2a,q2b,q2c,q2d,q2e,Zj7]<;>rfl)
    ·clear hh
     have hh:=ho41
     try simp only[bT,seval,q2a,q2b,q2c,q2d,q2e,Ze]
     refine sp bd hh (fun _ hh =>?_) (fun _ hh =>?_)
     ·cases hh
      try simp only[bT,seval,q2a,q2b,q2c,q2d,q2e,Ze]
      rw[au]
      refine⟨_,rfl,?_⟩
      refine⟨v5e,?_,?_,?_,?_,?_,?_,?_,?_⟩
      all_goals first|rfl|(simp only[bT,seval,q2a,q2b,q2c,q2d,q2e,Ze]<;>rfl)
     ·cases hh
      try simp only[bT,seval,q2a,q2b,q2c,q2d,q2e,Ze]
      rw[au]
      refine⟨_,rfl,?_⟩
      refine⟨v5e,?_,?_,?_,?_,?_,?_,?_,?_⟩
      all_goals first|rfl|(simp only[bT,seval,q2a,q2b,q2c,q2d,q2e,Ze]<;>rfl)
   ·rintro x t H e hx
    obtain⟨l5ex,rfl⟩:∃z,z=o40:=⟨_,rfl⟩
    dsimp only at hx hh
    obtain⟨rfl,⟨v5ex,Zex⟩⟩:=hx
    cases hh
    try simp only[bT,seval,q2a,q2b,q2c,q2d,q2e,Zex]
    refine j6 ?_
    refine⟨v5ex,?_,?_,?_,?_,?_⟩
    all_goals first|rfl|(simp only[bT,seval,q2a,q2b,q2c,q2d,q2e,Zex]<;>rfl)
  ·cases hh
   try simp only[bT,seval,q2a,q2b,q2c,q2d,q2e,Za]
   refine lj ?_
   refine⟨rfl,⟨v5a,?_,?_⟩⟩
   all_goals first|rfl|(simp only[bT,seval,q2a,q2b,q2c,q2d,q2e,Za]<;>rfl)
 ·rintro x t H e hx
  obtain⟨l5ax,rfl⟩:∃z,z=o27:=⟨_,rfl⟩
  dsimp only at hx hh
  obtain⟨rfl,⟨v5ax,Zax⟩⟩:=hx
  obtain⟨r52,hr52,hh⟩:=ah hh
  cases hh
  try simp only[bT,seval,q2a,q2b,q2c,q2d,q2e,Zax,hr52]
theorem Jy:b6 Try.prog 107 tD:=b6.of (mode := .clean) tok I6 mixed Try.func107 (by kernel_rfl) ⟨by kernel_rfl,by kernel_rfl⟩ (fun _=>afg (by kernel_rfl)) (fun x r h=>M7 x.1 x.2 r h)
noncomputable def rj:=fX (jh (mL (eI .i64)) (fU (mL (eI .i64)))) (fun x:(List Int)×(List Int)=>nA x.1 x.2) (fun r:Bool =>.clean (.bool r))
theorem sv (p0:(List Int)) (p1:(List Int)):rj none [.sl false false p0.length (ae (eI .i64) p0),.sl false false p1.length (ae (eI .i64) p1)]=(nA p0 p1).map fun r:Bool=>(.clean (.bool r),none):=aU _ _ _ (p0,p1)
noncomputable def sa:Env:=(Am.ext a6 109 false kY)
theorem L1:bA Try.prog sa:=(bA.none.add od false)
theorem gR:type_of% (ai @w<|ai @iz<|@sa.eq_1):=⟨@w,@iz,@sa.eq_1⟩
theorem P5 (p0:(List Int)) (p1:(List Int)) (r:Bool) (hh:nA p0 p1=some r):bc .clean tab sa FU Try.f88 none [.sl false false p0.length (ae (eI .i64) p0),.sl false false p1.length (ae (eI .i64) p1)]=some (.clean (.bool r),none):=by
 refine aC rfl Try.ntmps88 Try.results88 ?_
 unfold nA at hh
 try simp only[gR,seval]
 obtain⟨o5,ho5,hh⟩:=ah hh
 refine aB (fun s t H e=>match s with|s5a=>t 0=.sl false false p0.length (ae (eI .i64) p0)∧t 1=.sl false false p1.length (ae (eI .i64) p1)∧t 5=.int .i64 s5a) (fun o x t H e=>match o with|(.inl _)=>x=.exit 0|(.inr r)=>x=.ret∧jo .clean tab none [.tmp 4] ⟨t,EH H,e⟩=some (.clean (.bool r),none)) ho5 ?_ ?_ ?_
 ·refine⟨?_,?_,?_⟩
  all_goals first|rfl|(simp only[gR,seval]<;>rfl)
 ·rintro s5a t H e Za c hh
  simp only[qf]at hh
  try simp only[gR,seval,Za]
  refine sp aq hh (fun _ hh =>?_) (fun _ hh =>?_)
  ·obtain⟨r7,hr7,hh⟩:=ah hh
   obtain⟨r8,hr8,hh⟩:=ah hh
   try simp only[gR,seval,Za,hr7,hr8]
   refine sp aq hh (fun _ hh =>?_) (fun _ hh =>?_)
   ·cases hh
    try simp only[gR,seval,Za,hr7,hr8]
    refine G2 ⟨rfl,?_⟩
    try simp only[gR,seval,Za,hr7,hr8]
   ·cases hh
    try simp only[gR,seval,Za,hr7,hr8]
    refine j6 ?_
    refine⟨?_,?_,?_⟩
    all_goals first|rfl|(simp only[gR,seval,Za,hr7,hr8]<;>rfl)
  ·cases hh
   try simp only[gR,seval,Za]
   refine lj ?_
   exact rfl
 ·rintro x t H e hx
  rcases o5 with _|ra
  ·dsimp only at hx hh
   subst hx
   cases hh
   try simp only[gR,seval]
  ·dsimp only at hx hh
   obtain⟨rfl,hE⟩:=hx
   cases hh
   try simp only[bJ,bq,bW,ep,eo,dk,dm]
   exact hE
theorem Ar:b6 Try.prog 88 rj:=b6.of (mode := .clean) tok L1 mixed Try.func88 (by kernel_rfl) ⟨by kernel_rfl,by kernel_rfl⟩ (fun _=>afg (by kernel_rfl)) (fun x r h=>P5 x.1 x.2 r h)
noncomputable def pF:=fX (jh (mL (eI .i64)) (fU (mL (eI .i64)))) (fun x:(List Int)×(List Int)=>lq x.1 x.2) (fun r:(List Int) =>.clean (.sl false false r.length (ae (eI .i64) r)))
theorem p7 (p0:(List Int)) (p1:(List Int)):pF none [.sl false false p0.length (ae (eI .i64) p0),.sl false false p1.length (ae (eI .i64) p1)]=(lq p0 p1).map fun r:(List Int)=>(.clean (.sl false false r.length (ae (eI .i64) r)),none):=aU _ _ _ (p0,p1)
noncomputable def pS:Env:=(Am.ext (Am.ext a6 106 false kJ) 109 false kY)
theorem I5:bA Try.prog pS:=((bA.none.add ny false).add od false)
theorem eD:type_of% (ai @w<|ai @fM<|ai @iz<|@pS.eq_1):=⟨@w,@fM,@iz,@pS.eq_1⟩
theorem M6 (p0:(List Int)) (p1:(List Int)) (r:(List Int)) (hh:lq p0 p1=some r):bc .clean tab pS FU Try.f108 none [.sl false false p0.length (ae (eI .i64) p0),.sl false false p1.length (ae (eI .i64) p1)]=some (.clean (.sl false false r.length (ae (eI .i64) r)),none):=by
 refine aC rfl Try.ntmps108 Try.results108 ?_
 unfold lq at hh
 try simp only[eD,seval]
 obtain⟨o9,ho9,hh⟩:=ah hh
 refine aB (fun s t H e=>match s with|(s6a,s7a,l5a)=>∃v5a:Nat,t 0=.sl false false p0.length (ae (eI .i64) p0)∧t 1=.sl false false p1.length (ae (eI .i64) p1)∧t 5=.buf 5 v5a 1 0 (l5a).length∧t 6=.int .i64 s6a∧t 7=.int .i64 s7a∧H 5=some ⟨v5a,3,ae (eI .i64) l5a,false,true,false⟩) (fun o x t H e=>match o with|l5ax=>x=.exit 0∧∃v5ax:Nat,t 5=.buf 5 v5ax 1 0 (l5ax).length∧H 5=some ⟨v5ax,3,ae (eI .i64) l5ax,false,true,false⟩) ho9 ?_ ?_ ?_
 ·refine⟨1,?_,?_,?_,?_,?_,?_⟩
  all_goals first|rfl|(simp only[eD,seval]<;>rfl)
 ·rintro⟨s6a,s7a,l5a⟩ t H e ⟨v5a,Za⟩ c hh
  simp only[oo]at hh
  try simp only[eD,seval,Za]
  refine sp aq hh (fun _ hh =>?_) (fun _ hh =>?_)
  ·obtain⟨x11,hx11,hh⟩:=ah hh
   have ax11:=bQ (eI .i64) hx11
   simp only[bI]at ax11
   obtain⟨r12,hr12,hh⟩:=ah hh
   try simp only[eD,seval,Za,ax11,hr12]
   refine bn (by kernel_rfl) ?_
   try simp only[eD,seval,Za,ax11,hr12]
   refine sp aq hh (fun _ hh =>?_) (fun _ hh =>?_)
   ·obtain⟨x14,hx14,hh⟩:=ah hh
    obtain⟨q15a,q15b,q15c,q15d⟩:=jg (eI .i64) hx14
    simp only[bI]at q15b
    cases hh
    try simp only[eD,seval,Za,ax11,hr12,q15a,q15b,q15c,q15d]
    refine j6 ?_
    refine⟨e+1+1+1+1+1+1,?_,?_,?_,?_,?_,?_⟩
    all_goals first|rfl|(simp only[eD,seval,Za,ax11,hr12,q15a,q15b,q15c,q15d]<;>rfl)
   ·obtain⟨x16,hx16,hh⟩:=ah hh
    obtain⟨q17a,q17b,q17c,q17d⟩:=jg (eI .i64) hx16
    simp only[bI]at q17b
    cases hh
    try simp only[eD,seval,Za,ax11,hr12,q17a,q17b,q17c,q17d]
    refine j6 ?_
    refine⟨e+1+1+1+1,?_,?_,?_,?_,?_,?_⟩
    all_goals first|rfl|(simp only[eD,seval,Za,ax11,hr12,q17a,q17b,q17c,q17d]<;>rfl)
  ·cases hh
   try simp only[eD,seval,Za]
   refine lj ?_
   refine⟨rfl,⟨v5a,?_,?_⟩⟩
   all_goals first|rfl|(simp only[eD,seval,Za]<;>rfl)
 ·rintro x t H e hx
  obtain⟨l5ax,rfl⟩:∃z,z=o9:=⟨_,rfl⟩
  dsimp only at hx hh
  obtain⟨rfl,⟨v5ax,Zax⟩⟩:=hx
  obtain⟨r18,hr18,hh⟩:=ah hh
  cases hh
  try simp only[eD,seval,Zax,hr18]
theorem yo:b6 Try.prog 108 pF:=b6.of (mode := .clean) tok I5 mixed Try.func108 (by kernel_rfl) ⟨by kernel_rfl,by kernel_rfl⟩ (fun _=>afg (by kernel_rfl)) (fun x r h=>M6 x.1 x.2 r h)
noncomputable def rl:=fX (jh (mL (eI .i64)) (fU (mL (eI .i64)))) (fun x:(List Int)×(List Int)=>nB x.1 x.2) (fun r:(List Int)×(List Int) =>.clean (.tup [.sl false false r.1.length (ae (eI .i64) r.1),.sl false false r.2.length (ae (eI .i64) r.2)]))
theorem sw (p0:(List Int)) (p1:(List Int)):rl none [.sl false false p0.length (ae (eI .i64) p0),.sl false false p1.length (ae (eI .i64) p1)]=(nB p0 p1).map fun r:(List Int)×(List Int)=>(.clean (.tup [.sl false false r.1.length (ae (eI .i64) r.1),.sl false false r.2.length (ae (eI .i64) r.2)]),none):=aU _ _ _ (p0,p1)
noncomputable def sd:Env:=(Am.keep 7 (Am.ext (Am.ext (Am.ext (Am.ext a6 88 false rj) 106 false kJ) 107 false tD) 108 false pF))
theorem L3:bA Try.prog sd:=(bA.keep ((((bA.none.add Ar false).add ny false).add Jy false).add yo false) 7)
theorem cT:type_of% (ai @w<|ai @sv<|ai @fM<|ai @ur<|ai @p7<|@sd.eq_1):=⟨@w,@sv,@fM,@ur,@p7,@sd.eq_1⟩
theorem P7 (p0:(List Int)) (p1:(List Int)) (r:(List Int)×(List Int)) (hh:nB p0 p1=some r):bc .clean tab sd FU Try.f85 none [.sl false false p0.length (ae (eI .i64) p0),.sl false false p1.length (ae (eI .i64) p1)]=some (.clean (.tup [.sl false false r.1.length (ae (eI .i64) r.1),.sl false false r.2.length (ae (eI .i64) r.2)]),none):=by
 refine aC rfl Try.ntmps85 Try.results85 ?_
 unfold nB at hh
 obtain⟨x1,hx1,hh⟩:=ah hh
 obtain⟨q2a,q2b,q2c,q2d,q2e⟩:=mk_one (eI .i64) hx1
 simp only[bI]at q2d
 try simp only[cT,seval,q2a,q2b,q2c,q2d,q2e]
 obtain⟨o29,ho29,hh⟩:=ah hh
 refine aB (fun s t H e=>match s with|(s7a,s8a,l6a)=>∃v6a:Nat,t 0=.sl false false p0.length (ae (eI .i64) p0)∧t 1=.sl false false p1.length (ae (eI .i64) p1)∧t 6=.buf 6 v6a 1 0 (l6a).length∧t 7=.sl false false s7a.length (ae (eI .i64) s7a)∧t 8=.int .i64 s8a∧H 6=some ⟨v6a,3,ae (eI .i64) l6a,false,true,false⟩) (fun o x t H e=>match o with|(s7ax,l6ax)=>x=.exit 0∧∃v6ax:Nat,t 6=.buf 6 v6ax 1 0 (l6ax).length∧t 7=.sl false false s7ax.length (ae (eI .i64) s7ax)∧H 6=some ⟨v6ax,3,ae (eI .i64) l6ax,false,true,false⟩) ho29 ?_ ?_ ?_
 ·refine⟨1,?_,?_,?_,?_,?_,?_⟩
  all_goals first|rfl|(simp only[cT,seval,q2a,q2b,q2c,q2d,q2e]<;>rfl)
 ·rintro⟨s7a,s8a,l6a⟩ t H e ⟨v6a,Za⟩ c hh
  simp only[qg]at hh
  try simp only[cT,seval,q2a,q2b,q2c,q2d,q2e,Za]
  refine sp aq hh (fun _ hh =>?_) (fun _ hh =>?_)
  ·obtain⟨x31,hx31,hh⟩:=ah hh
   have ax31:=bQ (eI .i64) hx31
   simp only[bI]at ax31
   obtain⟨x32,hx32,hh⟩:=ah hh
   obtain⟨q33a,q33b,q33c,q33d⟩:=Yc (eI .i64) hx32
   simp only[aL,bI,List.length_cons,aen,Nat.reduceAdd]at q33a q33b
   obtain⟨r34,hr34,hh⟩:=ah hh
   try simp only[cT,seval,q2a,q2b,q2c,q2d,q2e,Za,ax31,q33a,q33b,q33c,q33d,hr34]
   obtain⟨o42,ho42,hh⟩:=ah hh
   refine aB (fun s t H e=>match s with|(s9c,s10c)=>∃v6c:Nat,t 0=.sl false false p0.length (ae (eI .i64) p0)∧t 1=.sl false false p1.length (ae (eI .i64) p1)∧t 6=.buf 6 v6c 1 0 (l6a).length∧t 7=.sl false false r34.length (ae (eI .i64) r34)∧t 8=.int .i64 s8a∧t 9=.int .i64 s9c∧t 10=.int .i64 s10c∧H 6=some ⟨v6c,3,ae (eI .i64) l6a,false,true,false⟩) (fun o x t H e=>match o with|s9cx=>x=.exit 2∧∃v6cx:Nat,t 0=.sl false false p0.length (ae (eI .i64) p0)∧t 1=.sl false false p1.length (ae (eI .i64) p1)∧t 6=.buf 6 v6cx 1 0 (l6a).length∧t 7=.sl false false r34.length (ae (eI .i64) r34)∧t 8=.int .i64 s8a∧t 9=.int .i64 s9cx∧H 6=some ⟨v6cx,3,ae (eI .i64) l6a,false,true,false⟩) ho42 ?_ ?_ ?_
   ·refine⟨v6a,?_,?_,?_,?_,?_,?_,?_,?_⟩
    all_goals first|rfl|(simp only[cT,seval,q2a,q2b,q2c,q2d,q2e,Za,ax31,q33a,q33b,q33c,q33d,hr34]<;>rfl)
   ·rintro⟨s9c,s10c⟩ t H e ⟨v6c,Zc⟩ c hh
    simp only[nC]at hh
    try simp only[cT,seval,q2a,q2b,q2c,q2d,q2e,ax31,q33a,q33b,q33c,q33d,hr34,Zc]
    refine sp aq hh (fun _ hh =>?_) (fun _ hh =>?_)
    ·obtain⟨x44,hx44,hh⟩:=ah hh
     have q45:=rK hx44
     have i46:=ur p1 ([x44])
     simp only[aL,bI,List.length_cons,List.length_nil,aen,Nat.reduceAdd,afz]at i46
     obtain⟨r47,hr47,hh⟩:=ah hh
     obtain⟨r48,hr48,hh⟩:=ah hh
     try simp only[cT,seval,q2a,q2b,q2c,q2d,q2e,ax31,q33a,q33b,q33c,q33d,hr34,Zc,q45,i46,hr47,hr48]
     refine sp aq hh (fun _ hh =>?_) (fun _ hh =>?_)
     ·cases hh
      try simp only[cT,seval,q2a,q2b,q2c,q2d,q2e,ax31,q33a,q33b,q33c,q33d,hr34,Zc,q45,i46,hr47,hr48]
      refine j6 ?_
      refine⟨v6c,?_,?_,?_,?_,?_,?_,?_,?_⟩
      all_goals first|rfl|(simp only[cT,seval,q2a,q2b,q2c,q2d,q2e,ax31,q33a,q33b,q33c,q33d,hr34,Zc,q45,i46,hr47,hr48]<;>rfl)
     ·cases hh
      try simp only[cT,seval,q2a,q2b,q2c,q2d,q2e,ax31,q33a,q33b,q33c,q33d,hr34,Zc,q45,i46,hr47,hr48]
      refine j6 ?_
      refine⟨v6c,?_,?_,?_,?_,?_,?_,?_,?_⟩
      all_goals first|rfl|(simp only[cT,seval,q2a,q2b,q2c,q2d,q2e,ax31,q33a,q33b,q33c,q33d,hr34,Zc,q45,i46,hr47,hr48]<;>rfl)
    ·cases hh
     try simp only[cT,seval,q2a,q2b,q2c,q2d,q2e,ax31,q33a,q33b,q33c,q33d,hr34,Zc]
     refine lj ?_
     refine⟨rfl,⟨v6c,?_,?_,?_,?_,?_,?_,?_⟩⟩
     all_goals first|rfl|(simp only[cT,seval,q2a,q2b,q2c,q2d,q2e,ax31,q33a,q33b,q33c,q33d,hr34,Zc]<;>rfl)
   ·rintro x t H e hx
    obtain⟨s9cx,rfl⟩:∃z,z=o42:=⟨_,rfl⟩
    dsimp only at hx hh
    obtain⟨rfl,⟨v6cx,Zcx⟩⟩:=hx
    obtain⟨x50,hx50,hh⟩:=ah hh
    have ax50:=bQ (eI .i64) hx50
    simp only[bI]at ax50
    have p51:=eO (eI .i64) (x':=s9cx) (fo:=0) (cs:=[.int .i64 s9cx]) hx50 rfl (afg rfl)
    simp only[bI,Nat.add_zero]at p51
    have up51:=p51
    simp only[putCells,List.length_cons,List.length_nil,aen,Nat.reduceAdd]at up51
    have i52:=fM ([s9cx])
    simp only[aL,bI,List.length_cons,List.length_nil,aen,Nat.reduceAdd,afz]at i52
    obtain⟨r53,hr53,hh⟩:=ah hh
    obtain⟨r54,hr54,hh⟩:=ah hh
    obtain⟨r55,hr55,hh⟩:=ah hh
    cases hh
    try simp only[cT,seval,q2a,q2b,q2c,q2d,q2e,ax31,q33a,q33b,q33c,q33d,hr34,Zcx,ax50,p51,up51,i52,hr53,hr54,hr55]
    refine j6 ?_
    refine⟨v6cx,?_,?_,?_,?_,?_,?_⟩
    all_goals first|rfl|(simp only[cT,seval,q2a,q2b,q2c,q2d,q2e,ax31,q33a,q33b,q33c,q33d,hr34,Zcx,ax50,p51,up51,i52,hr53,hr54,hr55]<;>rfl)
  ·cases hh
   try simp only[cT,seval,q2a,q2b,q2c,q2d,q2e,Za]
   refine lj ?_
   refine⟨rfl,⟨v6a,?_,?_,?_⟩⟩
   all_goals first|rfl|(simp only[cT,seval,q2a,q2b,q2c,q2d,q2e,Za]<;>rfl)
 ·rintro x t H e hx
  rcases o29 with⟨s7ax,l6ax⟩
  dsimp only at hx hh
  obtain⟨rfl,⟨v6ax,Zax⟩⟩:=hx
  obtain⟨r56,hr56,hh⟩:=ah hh
  cases hh
  try simp only[cT,seval,q2a,q2b,q2c,q2d,q2e,Zax,hr56]
theorem As:b6 Try.prog 85 rl:=b6.of (mode := .clean) tok L3 mixed Try.func85 (by kernel_rfl) ⟨by kernel_rfl,by kernel_rfl⟩ (fun _=>afg (by kernel_rfl)) (fun x r h=>P7 x.1 x.2 r h)
noncomputable def uN:=fX (jh (cX eB) (fU (cX eB))) (fun x:al×al=>og x.1 x.2) (fun r:al×Int =>.clean (.tup [.agg [.int .i64 r.1.ag,.sl false false r.1.aa.length (ae (eI .i64) r.1.aa)],.int .i64 r.2]))
theorem vH (p0_0:Int) (p0_1:(List Int)) (p1_0:Int) (p1_1:(List Int)):uN none [.agg [.int .i64 p0_0,.sl false false p0_1.length (ae (eI .i64) p0_1)],.agg [.int .i64 p1_0,.sl false false p1_1.length (ae (eI .i64) p1_1)]]=(og (al.mk p0_0 p0_1) (al.mk p1_0 p1_1)).map fun r:al×Int=>(.clean (.tup [.agg [.int .i64 r.1.ag,.sl false false r.1.aa.length (ae (eI .i64) r.1.aa)],.int .i64 r.2]),none):=aU _ _ _ ((al.mk p0_0 p0_1),(al.mk p1_0 p1_1))
noncomputable def vr:Env:=(Am.ext (Am.ext (Am.ext a6 55 false ik) 85 false rl) 86 false ml)
theorem PE:bA Try.prog vr:=(((bA.none.add jY false).add As false).add pY false)
theorem ez:type_of% (ai @w<|ai @eC<|ai @sw<|ai @jB<|@vr.eq_1):=⟨@w,@eC,@sw,@jB,@vr.eq_1⟩
theorem Um (p0:al) (p1:al) (r:al×Int) (hh:og p0 p1=some r):bc .clean tab vr FU Try.f56 none [.agg [.int .i64 p0.ag,.sl false false p0.aa.length (ae (eI .i64) p0.aa)],.agg [.int .i64 p1.ag,.sl false false p1.aa.length (ae (eI .i64) p1.aa)]]=some (.clean (.tup [.agg [.int .i64 r.1.ag,.sl false false r.1.aa.length (ae (eI .i64) r.1.aa)],.int .i64 r.2]),none):=by
 refine aC rfl Try.ntmps56 Try.results56 ?_
 unfold og at hh
 obtain⟨r1,hr1,hh⟩:=ah hh
 try simp only[ez,seval,hr1]
 obtain⟨o2,ho2,hh⟩:=ah hh
 refine bt 0 (fun s t H e=>match s with|s17j1=>∃v2j1:Nat,∃v3j1:Nat,∃v4j1:Nat,t 2=.ptr 2 v2j1 0∧t 3=.ptr 3 v3j1 0∧t 4=.ptr 4 v4j1 0∧t 17=.bool s17j1∧H 2=some ⟨v2j1,39,[.int .i64 p0.ag,.sl false false p0.aa.length (ae (eI .i64) p0.aa)],false,false,false⟩∧H 3=some ⟨v3j1,39,[.int .i64 p1.ag,.sl false false p1.aa.length (ae (eI .i64) p1.aa)],false,false,false⟩∧H 4=some ⟨v4j1,39,[.int .i64 0,.sl true true 0 []],false,false,false⟩) (fun s=>s=o2) ?_ ?_
 ·rintro s17j1 t H e ⟨v2j1,v3j1,v4j1,Zj1⟩ rfl
  try dsimp only at hh
  try simp only[ez,seval,hr1,Zj1]
  refine sp aq hh (fun _ hh =>?_) (fun _ hh =>?_)
  ·cases hh
   try simp only[ez,seval,hr1,Zj1]
  ·try simp only[ez,seval,hr1,Zj1]
   obtain⟨o6,ho6,hh⟩:=ah hh
   refine aB (fun s t H e=>match s with|(s6b,s7b)=>∃v4b:Nat,t 4=.ptr 4 v4b 0∧t 6=.sl false false s6b.length (ae (eI .i64) s6b)∧t 7=.sl false false s7b.length (ae (eI .i64) s7b)∧H 4=some ⟨v4b,39,[.int .i64 0,.sl true true 0 []],false,false,false⟩) (fun o x t H e=>match o with|s6bx=>x=.exit 0∧∃v4bx:Nat,t 4=.ptr 4 v4bx 0∧t 6=.sl false false s6bx.length (ae (eI .i64) s6bx)∧H 4=some ⟨v4bx,39,[.int .i64 0,.sl true true 0 []],false,false,false⟩) ho6 ?_ ?_ ?_
   ·refine⟨v4j1,?_,?_,?_,?_⟩
    all_goals first|rfl|(simp only[ez,seval,hr1,Zj1]<;>rfl)
   ·rintro⟨s6b,s7b⟩ t H e ⟨v4b,Zb⟩ c hh
    simp only[pr]at hh
    try simp only[ez,seval,hr1,Zb]
    refine sp aq hh (fun _ hh =>?_) (fun _ hh =>?_)
    ·obtain⟨r8,hr8,hh⟩:=ah hh
     cases hh
     try simp only[ez,seval,hr1,Zb,hr8]
     refine j6 ?_
     refine⟨v4b,?_,?_,?_,?_⟩
     all_goals first|rfl|(simp only[ez,seval,hr1,Zb,hr8]<;>rfl)
    ·cases hh
     try simp only[ez,seval,hr1,Zb]
     refine lj ?_
     refine⟨rfl,⟨v4b,?_,?_,?_⟩⟩
     all_goals first|rfl|(simp only[ez,seval,hr1,Zb]<;>rfl)
   ·rintro x t H e hx
    obtain⟨s6bx,rfl⟩:∃z,z=o6:=⟨_,rfl⟩
    dsimp only at hx hh
    obtain⟨rfl,⟨v4bx,Zbx⟩⟩:=hx
    obtain⟨r9,hr9,hh⟩:=ah hh
    cases hh
    try simp only[ez,seval,hr1,Zbx,hr9]
 ·clear hh
  have hh:=ho2
  try simp only[ez,seval,hr1]
  refine sp bd hh (fun _ hh =>?_) (fun _ hh =>?_)
  ·cases hh
   try simp only[ez,seval,hr1]
   rw[au]
   refine⟨_,rfl,?_⟩
   refine⟨0,0,0,?_,?_,?_,?_,?_,?_,?_⟩
   all_goals first|rfl|(simp only[ez,seval,hr1]<;>rfl)
  ·obtain⟨r11,hr11,hh⟩:=ah hh
   cases hh
   try simp only[ez,seval,hr1,hr11]
   rw[au]
   refine⟨_,rfl,?_⟩
   refine⟨0,0,0,?_,?_,?_,?_,?_,?_,?_⟩
   all_goals first|rfl|(simp only[ez,seval,hr1,hr11]<;>rfl)
theorem DH:b6 Try.prog 56 uN:=b6.of (mode := .clean) tok PE mixed Try.func56 (by kernel_rfl) ⟨by kernel_rfl,by kernel_rfl⟩ (fun _=>afg (by kernel_rfl)) (fun x r h=>Um x.1 x.2 r h)
noncomputable def wR:=fX (jh (mL (eI .i64)) (fU (mL (eI .i64)))) (fun x:(List Int)×(List Int)=>uu x.1 x.2) (fun r:(List Int) =>.clean (.sl false false r.length (ae (eI .i64) r)))
theorem xk (p0:(List Int)) (p1:(List Int)):wR none [.sl false false p0.length (ae (eI .i64) p0),.sl false false p1.length (ae (eI .i64) p1)]=(uu p0 p1).map fun r:(List Int)=>(.clean (.sl false false r.length (ae (eI .i64) r)),none):=aU _ _ _ (p0,p1)
noncomputable def se:Env:=(Am.ext (Am.ext a6 106 false kJ) 109 false kY)
theorem L4:bA Try.prog se:=((bA.none.add ny false).add od false)
theorem df:type_of% (ai @w<|ai @fM<|ai @iz<|@se.eq_1):=⟨@w,@fM,@iz,@se.eq_1⟩
theorem P8 (p0:(List Int)) (p1:(List Int)) (r:(List Int)) (hh:uu p0 p1=some r):bc .clean tab se FU Try.f116 none [.sl false false p0.length (ae (eI .i64) p0),.sl false false p1.length (ae (eI .i64) p1)]=some (.clean (.sl false false r.length (ae (eI .i64) r)),none):=by
 refine aC rfl Try.ntmps116 Try.results116 ?_
 unfold uu at hh
 try simp only[df,seval]
 obtain⟨o13,ho13,hh⟩:=ah hh
 refine aB (fun s t H e=>match s with|(s6a,s7a,l5a)=>∃v5a:Nat,t 0=.sl false false p0.length (ae (eI .i64) p0)∧t 1=.sl false false p1.length (ae (eI .i64) p1)∧t 5=.buf 5 v5a 1 0 (l5a).length∧t 6=.int .i64 s6a∧t 7=.int .i64 s7a∧H 5=some ⟨v5a,3,ae (eI .i64) l5a,false,true,false⟩) (fun o x t H e=>match o with|l5ax=>x=.exit 0∧∃v5ax:Nat,t 5=.buf 5 v5ax 1 0 (l5ax).length∧H 5=some ⟨v5ax,3,ae (eI .i64) l5ax,false,true,false⟩) ho13 ?_ ?_ ?_
 ·refine⟨1,?_,?_,?_,?_,?_,?_⟩
  all_goals first|rfl|(simp only[df,seval]<;>rfl)
 ·rintro⟨s6a,s7a,l5a⟩ t H e ⟨v5a,Za⟩ c hh
  simp only[AE]at hh
  try simp only[df,seval,Za]
  obtain⟨o14,ho14,hh⟩:=ah hh
  refine bt 0 (fun s t H e=>match s with|s22j3=>∃v5j3:Nat,t 0=.sl false false p0.length (ae (eI .i64) p0)∧t 1=.sl false false p1.length (ae (eI .i64) p1)∧t 5=.buf 5 v5j3 1 0 (l5a).length∧t 6=.int .i64 s6a∧t 7=.int .i64 s7a∧t 22=.bool s22j3∧H 5=some ⟨v5j3,3,ae (eI .i64) l5a,false,true,false⟩) (fun s=>s=o14) ?_ ?_
  ·rintro s22j3 t H e ⟨v5j3,Zj3⟩ rfl
   try dsimp only at hh
   try simp only[df,seval,Zj3]
   refine sp aq hh (fun _ hh =>?_) (fun _ hh =>?_)
   ·obtain⟨r16,hr16,hh⟩:=ah hh
    obtain⟨r17,hr17,hh⟩:=ah hh
    obtain⟨x18,hx18,hh⟩:=ah hh
    have q19:=yi hx18
    obtain⟨x20,hx20,hh⟩:=ah hh
    obtain⟨q21a,q21b,q21c,q21d⟩:=jg (eI .i64) hx20
    simp only[bI]at q21b
    obtain⟨x22,hx22,hh⟩:=ah hh
    have q23:=rK hx22
    cases hh
    try simp only[df,seval,Zj3,hr16,hr17,q19,q21a,q21b,q21c,q21d,q23]
    refine j6 ?_
    refine⟨e+1,?_,?_,?_,?_,?_,?_⟩
    all_goals first|rfl|(simp only[df,seval,Zj3,hr16,hr17,q19,q21a,q21b,q21c,q21d,q23]<;>rfl)
   ·cases hh
    try simp only[df,seval,Zj3]
    refine lj ?_
    refine⟨rfl,⟨v5j3,?_,?_⟩⟩
    all_goals first|rfl|(simp only[df,seval,Zj3]<;>rfl)
  ·clear hh
   have hh:=ho14
   try simp only[df,seval,Za]
   refine sp bd hh (fun _ hh =>?_) (fun _ hh =>?_)
   ·cases hh
    try simp only[df,seval,Za]
    rw[au]
    refine⟨_,rfl,?_⟩
    refine⟨v5a,?_,?_,?_,?_,?_,?_,?_⟩
    all_goals first|rfl|(simp only[df,seval,Za]<;>rfl)
   ·try simp only[df,seval,Za]
    refine sp bd hh (fun _ hh =>?_) (fun _ hh =>?_)
    ·cases hh
     try simp only[df,seval,Za]
     rw[au]
     refine⟨_,rfl,?_⟩
     refine⟨v5a,?_,?_,?_,?_,?_,?_,?_⟩
     all_goals first|rfl|(simp only[df,seval,Za]<;>rfl)
    ·cases hh
     try simp only[df,seval,Za]
     rw[au]
     refine⟨_,rfl,?_⟩
     refine⟨v5a,?_,?_,?_,?_,?_,?_,?_⟩
     all_goals first|rfl|(simp only[df,seval,Za]<;>rfl)
 ·rintro x t H e hx
  obtain⟨l5ax,rfl⟩:∃z,z=o13:=⟨_,rfl⟩
  dsimp only at hx hh
  obtain⟨rfl,⟨v5ax,Zax⟩⟩:=hx
  obtain⟨r26,hr26,hh⟩:=ah hh
  cases hh
  try simp only[df,seval,Zax,hr26]
theorem NM:b6 Try.prog 116 wR:=b6.of (mode := .clean) tok L4 mixed Try.func116 (by kernel_rfl) ⟨by kernel_rfl,by kernel_rfl⟩ (fun _=>afg (by kernel_rfl)) (fun x r h=>P8 x.1 x.2 r h)
noncomputable def yQ:=fX (jh (cX eB) (fU (cX eB))) (fun x:al×al=>mZ x.1 x.2) (fun r:al×al×Int =>.clean (.tup [.agg [.int .i64 r.1.ag,.sl false false r.1.aa.length (ae (eI .i64) r.1.aa)],.agg [.int .i64 r.2.1.ag,.sl false false r.2.1.aa.length (ae (eI .i64) r.2.1.aa)],.int .i64 r.2.2]))
theorem HF (p0_0:Int) (p0_1:(List Int)) (p1_0:Int) (p1_1:(List Int)):yQ none [.agg [.int .i64 p0_0,.sl false false p0_1.length (ae (eI .i64) p0_1)],.agg [.int .i64 p1_0,.sl false false p1_1.length (ae (eI .i64) p1_1)]]=(mZ (al.mk p0_0 p0_1) (al.mk p1_0 p1_1)).map fun r:al×al×Int=>(.clean (.tup [.agg [.int .i64 r.1.ag,.sl false false r.1.aa.length (ae (eI .i64) r.1.aa)],.agg [.int .i64 r.2.1.ag,.sl false false r.2.1.aa.length (ae (eI .i64) r.2.1.aa)],.int .i64 r.2.2]),none):=aU _ _ _ ((al.mk p0_0 p0_1),(al.mk p1_0 p1_1))
noncomputable def vp:Env:=(Am.ext (Am.ext (Am.ext (Am.ext (Am.ext a6 55 false ik) 85 false rl) 86 false ml) 108 false pF) 116 false wR)
theorem PD:bA Try.prog vp:=(((((bA.none.add jY false).add As false).add pY false).add yo false).add NM false)
theorem cO:type_of% (ai @w<|ai @eC<|ai @sw<|ai @jB<|ai @p7<|ai @xk<|@vp.eq_1):=⟨@w,@eC,@sw,@jB,@p7,@xk,@vp.eq_1⟩
theorem Ul (p0:al) (p1:al) (r:al×al×Int) (hh:mZ p0 p1=some r):bc .clean tab vp FU Try.f101 none [.agg [.int .i64 p0.ag,.sl false false p0.aa.length (ae (eI .i64) p0.aa)],.agg [.int .i64 p1.ag,.sl false false p1.aa.length (ae (eI .i64) p1.aa)]]=some (.clean (.tup [.agg [.int .i64 r.1.ag,.sl false false r.1.aa.length (ae (eI .i64) r.1.aa)],.agg [.int .i64 r.2.1.ag,.sl false false r.2.1.aa.length (ae (eI .i64) r.2.1.aa)],.int .i64 r.2.2]),none):=by
 refine aC rfl Try.ntmps101 Try.results101 ?_
 unfold mZ at hh
 obtain⟨r1,hr1,hh⟩:=ah hh
 try simp only[cO,seval,hr1]
 obtain⟨o2,ho2,hh⟩:=ah hh
 refine bt 0 (fun s t H e=>match s with|s16j1=>∃v2j1:Nat,∃v3j1:Nat,∃v4j1:Nat,∃v5j1:Nat,t 2=.ptr 2 v2j1 0∧t 3=.ptr 3 v3j1 0∧t 4=.ptr 4 v4j1 0∧t 5=.ptr 5 v5j1 0∧t 16=.bool s16j1∧H 2=some ⟨v2j1,39,[.int .i64 p0.ag,.sl false false p0.aa.length (ae (eI .i64) p0.aa)],false,false,false⟩∧H 3=some ⟨v3j1,39,[.int .i64 p1.ag,.sl false false p1.aa.length (ae (eI .i64) p1.aa)],false,false,false⟩∧H 4=some ⟨v4j1,39,[.int .i64 0,.sl true true 0 []],false,false,false⟩∧H 5=some ⟨v5j1,39,[.int .i64 0,.sl true true 0 []],false,false,false⟩) (fun s=>s=o2) ?_ ?_
 ·rintro s16j1 t H e ⟨v2j1,v3j1,v4j1,v5j1,Zj1⟩ rfl
  try dsimp only at hh
  try simp only[cO,seval,hr1,Zj1]
  refine sp aq hh (fun _ hh =>?_) (fun _ hh =>?_)
  ·cases hh
   try simp only[cO,seval,hr1,Zj1]
  ·try simp only[cO,seval,hr1,Zj1]
   refine sp aq hh (fun _ hh =>?_) (fun _ hh =>?_)
   ·cases hh
    try simp only[cO,seval,hr1,Zj1]
   ·obtain⟨r5,hr5,hh⟩:=ah hh
    try simp only[cO,seval,hr1,Zj1,hr5]
    obtain⟨o6,ho6,hh⟩:=ah hh
    refine bt 0 (fun s t H e=>match s with|s42j2=>∃v2j2:Nat,∃v3j2:Nat,∃v4j2:Nat,∃v5j2:Nat,t 2=.ptr 2 v2j2 0∧t 3=.ptr 3 v3j2 0∧t 4=.ptr 4 v4j2 0∧t 5=.ptr 5 v5j2 0∧t 7=.sl false false r5.1.length (ae (eI .i64) r5.1)∧t 8=.sl false false r5.2.length (ae (eI .i64) r5.2)∧t 42=.bool s42j2∧H 2=some ⟨v2j2,39,[.int .i64 p0.ag,.sl false false p0.aa.length (ae (eI .i64) p0.aa)],false,false,false⟩∧H 3=some ⟨v3j2,39,[.int .i64 p1.ag,.sl false false p1.aa.length (ae (eI .i64) p1.aa)],false,false,false⟩∧H 4=some ⟨v4j2,39,[.int .i64 0,.sl true true 0 []],false,false,false⟩∧H 5=some ⟨v5j2,39,[.int .i64 0,.sl true true 0 []],false,false,false⟩) (fun s=>s=o6) ?_ ?_
    ·rintro s42j2 t H e ⟨v2j2,v3j2,v4j2,v5j2,Zj2⟩ rfl
     try dsimp only at hh
     try simp only[cO,seval,hr1,hr5,Zj2]
     refine sp aq hh (fun _ hh =>?_) (fun _ hh =>?_)
     ·obtain⟨r8,hr8,hh⟩:=ah hh
      obtain⟨r9,hr9,hh⟩:=ah hh
      try simp only[cO,seval,hr1,hr5,Zj2,hr8,hr9]
      refine bn (by kernel_rfl) ?_
      cases hh
      try simp only[cO,seval,hr1,hr5,Zj2,hr8,hr9]
     ·have i10:=xk r5.1 ([1])
      simp only[aL,bI,List.length_cons,List.length_nil,aen,Nat.reduceAdd,afz]at i10
      obtain⟨r11,hr11,hh⟩:=ah hh
      obtain⟨r12,hr12,hh⟩:=ah hh
      obtain⟨r13,hr13,hh⟩:=ah hh
      obtain⟨r14,hr14,hh⟩:=ah hh
      try simp only[cO,seval,hr1,hr5,Zj2,i10,hr11,hr12,hr13,hr14]
      refine bn (by kernel_rfl) ?_
      cases hh
      try simp only[cO,seval,hr1,hr5,Zj2,i10,hr11,hr12,hr13,hr14]
    ·clear hh
     have hh:=ho6
     try simp only[cO,seval,hr1,Zj1,hr5]
     refine sp bd hh (fun _ hh =>?_) (fun _ hh =>?_)
     ·cases hh
      try simp only[cO,seval,hr1,Zj1,hr5]
      rw[au]
      refine⟨_,rfl,?_⟩
      refine⟨v2j1,v3j1,v4j1,v5j1,?_,?_,?_,?_,?_,?_,?_,?_,?_,?_,?_⟩
      all_goals first|rfl|(simp only[cO,seval,hr1,Zj1,hr5]<;>rfl)
     ·cases hh
      try simp only[cO,seval,hr1,Zj1,hr5]
      rw[au]
      refine⟨_,rfl,?_⟩
      refine⟨v2j1,v3j1,v4j1,v5j1,?_,?_,?_,?_,?_,?_,?_,?_,?_,?_,?_⟩
      all_goals first|rfl|(simp only[cO,seval,hr1,Zj1,hr5]<;>rfl)
 ·clear hh
  have hh:=ho2
  try simp only[cO,seval,hr1]
  refine sp bd hh (fun _ hh =>?_) (fun _ hh =>?_)
  ·cases hh
   try simp only[cO,seval,hr1]
   rw[au]
   refine⟨_,rfl,?_⟩
   refine⟨0,0,0,0,?_,?_,?_,?_,?_,?_,?_,?_,?_⟩
   all_goals first|rfl|(simp only[cO,seval,hr1]<;>rfl)
  ·obtain⟨r17,hr17,hh⟩:=ah hh
   cases hh
   try simp only[cO,seval,hr1,hr17]
   rw[au]
   refine⟨_,rfl,?_⟩
   refine⟨0,0,0,0,?_,?_,?_,?_,?_,?_,?_,?_,?_⟩
   all_goals first|rfl|(simp only[cO,seval,hr1,hr17]<;>rfl)
theorem Qk:b6 Try.prog 101 yQ:=b6.of (mode := .clean) tok PD mixed Try.func101 (by kernel_rfl) ⟨by kernel_rfl,by kernel_rfl⟩ (fun _=>afg (by kernel_rfl)) (fun x r h=>Ul x.1 x.2 r h)
noncomputable def yS:=fX (jh (cX eB) (fU (cX eB))) (fun x:al×al=>sC x.1 x.2) (fun r:ak×Int =>.clean (.tup [.agg [.int .i64 r.1.aH.ag,.sl false false r.1.aH.aa.length (ae (eI .i64) r.1.aH.aa),.int .i64 r.1.aK.ag,.sl false false r.1.aK.aa.length (ae (eI .i64) r.1.aK.aa)],.int .i64 r.2]))
theorem HH (p0_0:Int) (p0_1:(List Int)) (p1_0:Int) (p1_1:(List Int)):yS none [.agg [.int .i64 p0_0,.sl false false p0_1.length (ae (eI .i64) p0_1)],.agg [.int .i64 p1_0,.sl false false p1_1.length (ae (eI .i64) p1_1)]]=(sC (al.mk p0_0 p0_1) (al.mk p1_0 p1_1)).map fun r:ak×Int=>(.clean (.tup [.agg [.int .i64 r.1.aH.ag,.sl false false r.1.aH.aa.length (ae (eI .i64) r.1.aH.aa),.int .i64 r.1.aK.ag,.sl false false r.1.aK.aa.length (ae (eI .i64) r.1.aK.aa)],.int .i64 r.2]),none):=aU _ _ _ ((al.mk p0_0 p0_1),(al.mk p1_0 p1_1))
noncomputable def vv:Env:=(Am.ext (Am.ext (Am.ext (Am.ext a6 55 false ik) 56 false uN) 100 false yR) 101 false yQ)
theorem PH:bA Try.prog vv:=((((bA.none.add jY false).add DH false).add Ql false).add Qk false)
theorem dW:type_of% (ai @w<|ai @eC<|ai @vH<|ai @HG<|ai @HF<|@vv.eq_1):=⟨@w,@eC,@vH,@HG,@HF,@vv.eq_1⟩
end Go.Proofs.Ytchndpjlijbplaa.Am
