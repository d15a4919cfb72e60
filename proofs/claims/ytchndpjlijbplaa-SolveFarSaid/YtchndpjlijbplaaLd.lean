/- Part of a proof, made small by a program (wip/mini.py). -/
import Derived.Test.YtchndpjlijbplaaLc
namespace Go.Proofs.Ytchndpjlijbplaa.Am
open Go.RowKit Go.Proofs.Ytchndpjlijbplaa.P
set_option linter.unusedSimpArgs false
set_option linter.unusedVariables false
section
variable {T:Nat->Option Ty} {Γ:Env} {N F e:Nat} {Q Q':Kt} {t:Nat->D} {h:Nat->Option Row}
theorem gX (hm:∀x t h e,Q x t h e->Q' x t h e):∀(ws:List W) (x:Ex) (t:Nat->D) (h:Nat->Option Row) (e:Nat),cD T Γ N F ws Q x t h e->cD T Γ N F ws Q' x t h e
 | [],x,t,h,e,hk=>hm _ _ _ _ hk
 | .code c::ws,x,t,h,e,hk=>by
  unfold cD at hk ⊢
  cases x with
  | normal=>exact Ur c t h e _ _ hk (fun x t h e hx=>gX hm ws x t h e hx)
  | exit n=>exact gX hm ws _ t h e hk
  | ret=>exact gX hm ws _ t h e hk
 | .blk id::ws,x,t,h,e,hk=>by
  unfold cD U1 at hk ⊢
  cases x with
  | normal=>exact gX hm ws _ t h e hk
  | exit n =>
   simp only at hk ⊢
   split at hk
   ·rename_i hn;rw[if_pos hn];exact gX hm ws _ t h e hk
   ·rename_i hn;rw[if_neg hn];exact gX hm ws _ t h e hk
  | ret=>exact gX hm ws _ t h e hk
theorem oR:∀(ws:List W) (k:Nat),cD T Γ N F ws Q=cD T Γ N F (ws.take k) (cD T Γ N F (ws.drop k) Q)
 | ws,0=>by simp[cD]
 | [],k+1=>by simp[cD]
 | .code c::ws,k+1=>by
  rw[ae8,ae7]
  funext x t h e
  unfold cD
  rw[oR ws k]
 | .blk id::ws,k+1=>by
  rw[ae8,ae7]
  funext x t h e
  unfold cD
  rw[oR ws k]
variable {σ:Type} {ops l:List Oper} {ws:List W} {dst:Option Nat} {fs:List jQ} {d:D} {g:Nat}
theorem sw {J:σ->(Nat->D)->(Nat->Option Row)->Nat->Prop} {P:σ->Prop} {R:Kt} (hrest:∀s t h e,J s t h e->P s->R .normal t h e):∀x t h e,CK J P R x t h e->R x t h e:=by
 intro x t h e hx
 cases x with
 | normal=>obtain⟨s,h1,h2⟩:=hx;exact hrest s t h e h2 h1
 | exit n=>exact hx
 | ret=>exact hx
theorem vo (hm:∀x t h e,Q x t h e->Q' x t h e) (hk:kz T Γ N F ops l ws Q t h e):kz T Γ N F ops l ws Q' t h e:=vr (fun t h hh=>gX hm ws _ _ _ _ hh) _ _ _ hk
theorem vp (hm:∀x t h e,Q x t h e->Q' x t h e) (hk:kC T Γ N F ops l ws Q t h e fs):kC T Γ N F ops l ws Q' t h e fs:=vl (fun t h fs hh=>⟨hh.1,gX hm ws _ _ _ _ hh.2⟩) _ _ _ _ hk
theorem sf (k:Nat):kz T Γ N F ops l ws Q t h e=kz T Γ N F ops l (ws.take k) (cD T Γ N F (ws.drop k) Q) t h e:=by unfold kz;rw[oR ws k]
theorem sg (k:Nat):kC T Γ N F ops l ws Q t h e fs=kC T Γ N F ops l (ws.take k) (cD T Γ N F (ws.drop k) Q) t h e fs:=by unfold kC;rw[oR ws k]
theorem FB (k:Nat) {o:Oper} : ou T Γ N F o ops l ws Q t h e=ou T Γ N F o ops l (ws.take k) (cD T Γ N F (ws.drop k) Q) t h e:=by
 unfold ou
 congr 1
 funext t E
 rw[sf k]
theorem FJ (k:Nat) {o:Oper} : ov T Γ N F o ops l ws Q t h e fs=ov T Γ N F o ops l (ws.take k) (cD T Γ N F (ws.drop k) Q) t h e fs:=by
 unfold ov
 congr 1
 funext t E
 rw[sg k]
theorem Kx {o:Oper} (hm:∀x t h e,Q x t h e->Q' x t h e) (hk:ou T Γ N F o ops l ws Q t h e):ou T Γ N F o ops l ws Q' t h e:=yl hk fun _ _ hh=>vo hm hh
theorem KD {o:Oper} (hm:∀x t h e,Q x t h e->Q' x t h e) (hk:ov T Γ N F o ops l ws Q t h e fs):ov T Γ N F o ops l ws Q' t h e fs:=yl hk fun _ _ hh=>vp hm hh
variable (k:Nat) (J:σ->(Nat->D)->(Nat->Option Row)->Nat->Prop) (P:σ->Prop)
theorem j5 {x y:Code} (hrest:∀s t h e,J s t h e->P s->cD T Γ N F (ws.drop k) Q .normal t h e) (hc:Jq T Γ N F d g x y (ws.take k) (CK J P (cD T Γ N F (ws.drop k) Q)) t h e):Jq T Γ N F d g x y ws Q t h e:=by
 unfold Jq at hc ⊢
 have e1:∀c:Code,cD T Γ N F (.code c::ws) Q=cD T Γ N F (.code c::ws.take k) (cD T Γ N F (ws.drop k) Q):=fun c=>oR (.code c::ws) (k+1)
 rw[e1,e1]
 exact yj hc (fun _ hh=>gX (sw hrest) _ _ _ _ _ hh) (fun _ hh=>gX (sw hrest) _ _ _ _ _ hh)
theorem bF {want:Bool} {o:Oper} (hrest:∀s t h e,J s t h e->P s->cD T Γ N F (ws.drop k) Q .normal t h e) (hc:vG T Γ N F d g want o ops l (ws.take k) (CK J P (cD T Γ N F (ws.drop k) Q)) t h e):vG T Γ N F d g want o ops l ws Q t h e:=by
 unfold vG at hc ⊢
 refine D4 hc (fun t hh =>?_) (fun t hh =>?_) (fun t hh =>?_)
 ·cases want
  ·simp only[adR,if_false]at hh ⊢;rw[sf k];exact vo (sw hrest) hh
  ·simp only[if_true]at hh ⊢;rw[FB k];exact Kx (sw hrest) hh
 ·cases want
  ·simp only[adR,if_false]at hh ⊢;rw[FB k];exact Kx (sw hrest) hh
  ·simp only[if_true]at hh ⊢;rw[sf k];exact vo (sw hrest) hh
 ·rw[sf k];exact vo (sw hrest) hh
theorem XB {want:Bool} {o:Oper} (hrest:∀s t h e,J s t h e->P s->cD T Γ N F (ws.drop k) Q .normal t h e) (hc:vH T Γ N F d g want o ops l (ws.take k) (CK J P (cD T Γ N F (ws.drop k) Q)) t h e fs):vH T Γ N F d g want o ops l ws Q t h e fs:=by
 unfold vH at hc ⊢
 refine D4 hc (fun t hh =>?_) (fun t hh =>?_) (fun t hh =>?_)
 ·cases want
  ·simp only[adR,if_false]at hh ⊢;rw[sg k];exact vp (sw hrest) hh
  ·simp only[if_true]at hh ⊢;rw[FJ k];exact KD (sw hrest) hh
 ·cases want
  ·simp only[adR,if_false]at hh ⊢;rw[FJ k];exact KD (sw hrest) hh
  ·simp only[if_true]at hh ⊢;rw[sg k];exact vp (sw hrest) hh
 ·rw[sg k];exact vp (sw hrest) hh
end
noncomputable def mkW {α β γ:Type} (ty:Nat) (E:ig γ) (A:kZ α) (F:List γ->α->Option (List γ×β)) (R:β->RK):Option (D×Row)->List D->Option (RK×Option Row):=fun lent ds =>
 match lent with
 | some (.buf 0 0 s o n,⟨0,ty',cells,false,true,false⟩)=>open Classical in
  if h:ty'=ty∧s=E.size∧∃p:List D×List γ×List D×α,cells=p.1++(ae E p.2.1++p.2.2.1)∧o=p.1.length∧n=p.2.1.length∧ds=A.ds p.2.2.2 then
   (F (Classical.choose h.2.2).2.1 (Classical.choose h.2.2).2.2.2).map fun r=>(R r.2,some ⟨0,ty,(Classical.choose h.2.2).1++(ae E r.1++(Classical.choose h.2.2).2.2.1),false,true,false⟩)
  else none
 | _=>none
theorem S3 {γ:Type} {E:ig γ} {p p' q q':List D} {l l':List γ} (h:p++(ae E l++q)=p'++(ae E l'++q')) (hp:p.length=p'.length) (hl:l.length=l'.length):p=p'∧l=l'∧q=q':=by
 obtain⟨h1,h2⟩:=ae9 h hp
 obtain⟨h3,h4⟩:=ae9 h2 (by rw[bL,bL,hl])
 exact⟨h1,tC E _ _ h3,h4⟩
theorem aak {α β γ:Type} (ty:Nat) (E:ig γ) (A:kZ α) (F:List γ->α->Option (List γ×β)) (R:β->RK) (pre post:List D) (l:List γ) (a:α) :
  mkW ty E A F R (some (.buf 0 0 E.size pre.length l.length,⟨0,ty,pre++(ae E l++post),false,true,false⟩)) (A.ds a)=(F l a).map fun r=>(R r.2,some ⟨0,ty,pre++(ae E r.1++post),false,true,false⟩):=by
 have h:ty=ty∧E.size=E.size∧∃p:List D×List γ×List D×α,pre++(ae E l++post)=p.1++(ae E p.2.1++p.2.2.1)∧pre.length=p.1.length∧l.length=p.2.1.length∧A.ds a=A.ds p.2.2.2:=⟨rfl,rfl,(pre,l,post,a),rfl,rfl,rfl,rfl⟩
 simp only[mkW]
 rw[dif_pos h]
 obtain⟨h1,h2,h3,h4⟩:=Classical.choose_spec h.2.2
 obtain⟨e1,e2,e3⟩:=S3 h1 h2 h3
 rw[<- A.inj _ _ h4,<- e1,<- e2,<- e3]
theorem Wl {α β γ:Type} {ty:Nat} {E:ig γ} {A:kZ α} {F:List γ->α->Option (List γ×β)} {R:β->RK} {lent:Option (D×Row)} {ds:List D} {rk:RK} {out:Option Row} (h:mkW ty E A F R lent ds=some (rk,out)) :
  ∃pre l post a l' r,lent=some (.buf 0 0 E.size pre.length l.length,⟨0,ty,pre++(ae E l++post),false,true,false⟩)∧ds=A.ds a∧F l a=some (l',r)∧rk=R r∧out=some ⟨0,ty,pre++(ae E l'++post),false,true,false⟩:=by
 unfold mkW at h
 split at h
 ·split at h
  ·rename_i he
   obtain⟨rfl,rfl,he⟩:=he
   rw[adf]at h
   obtain⟨⟨l',r⟩,h1,h2⟩:=h
   simp only[Prod.mk.injEq]at h2
   obtain⟨rfl,rfl⟩:=h2
   obtain⟨g1,g2,g3,g4⟩:=Classical.choose_spec he
   refine⟨_,_,_,_,l',r,?_,g4,h1,rfl,rfl⟩
   rw[<- g1,<- g2,<- g3]
  ·cases h
 ·cases h
theorem bX.aa8 {P:Program} {T:Nat->Option Ty} {Γ:Env} (hT:js P T) (hΓ:bB P Γ) (hm:P.follows .mixedOrders=true) {α β γ:Type} {ty:Nat} {E:ig γ} {A:kZ α} {F:List γ->α->Option (List γ×β)} {R:β->RK} {mode:Mode} {f:FuncId} {fn:Func} (hf:P.funcs[f]? = some fn) (hok:(match fn.body with|some c=>codeOk c|none=>true)=true)
  (hc:(fn.name == "runtime.NumGoroutine")=false∧fn.body.isNone=false) (hn:∀a,(A.ds a).length+1<=fn.ntmps)
  (h:∀pre post l a l' r,F l a=some (l',r)->ba mode T Γ FU fn (some (.buf 0 0 E.size pre.length l.length,⟨0,ty,pre++(ae E l++post),false,true,false⟩)) (A.ds a)=some (R r,some ⟨0,ty,pre++(ae E l'++post),false,true,false⟩)):bX P f (mkW ty E A F R) where
 calls lent ada rk out hg:=by
  obtain⟨pre,l,post,a,l',r,rfl,rfl,hr,rfl,rfl⟩:=Wl hg
  exact kX hT hΓ hm hf hok (hn a) rfl (h pre post l a l' r hr)
 callable:=⟨fn,hf,hc⟩
noncomputable def Zz {α γ:Type} (ty:Nat) (E:ig γ) (A:kZ α) (F:List γ->α->Option (List γ)):Option (D×Row)->List D->Option (RK×Option Row):=fun lent ds =>
 match lent with
 | some (.buf 0 0 s o n,⟨0,ty',cells,false,true,false⟩)=>open Classical in
  if h:ty'=ty∧s=E.size∧∃p:List D×List γ×List D×α,cells=p.1++(ae E p.2.1++p.2.2.1)∧o=p.1.length∧n=p.2.1.length∧ds=A.ds p.2.2.2 then
   (F (Classical.choose h.2.2).2.1 (Classical.choose h.2.2).2.2.2).map fun r=>(.fresh ty E.size r.length (ae E r),none)
  else none
 | _=>none
theorem Wj {α γ:Type} (ty:Nat) (E:ig γ) (A:kZ α) (F:List γ->α->Option (List γ)) (pre post:List D) (l:List γ) (a:α) :
  Zz ty E A F (some (.buf 0 0 E.size pre.length l.length,⟨0,ty,pre++(ae E l++post),false,true,false⟩)) (A.ds a)=(F l a).map fun r=>(.fresh ty E.size r.length (ae E r),none):=by
 have h:ty=ty∧E.size=E.size∧∃p:List D×List γ×List D×α,pre++(ae E l++post)=p.1++(ae E p.2.1++p.2.2.1)∧pre.length=p.1.length∧l.length=p.2.1.length∧A.ds a=A.ds p.2.2.2:=⟨rfl,rfl,(pre,l,post,a),rfl,rfl,rfl,rfl⟩
 simp only[Zz]
 rw[dif_pos h]
 obtain⟨h1,h2,h3,h4⟩:=Classical.choose_spec h.2.2
 obtain⟨e1,e2,e3⟩:=S3 h1 h2 h3
 rw[<- A.inj _ _ h4,<- e2]
theorem ML {α γ:Type} {ty:Nat} {E:ig γ} {A:kZ α} {F:List γ->α->Option (List γ)} {lent:Option (D×Row)} {ds:List D} {rk:RK} {out:Option Row} (h:Zz ty E A F lent ds=some (rk,out)) :
  ∃pre l post a r,lent=some (.buf 0 0 E.size pre.length l.length,⟨0,ty,pre++(ae E l++post),false,true,false⟩)∧ds=A.ds a∧F l a=some r∧rk=.fresh ty E.size r.length (ae E r)∧out=none:=by
 unfold Zz at h
 split at h
 ·split at h
  ·rename_i he
   obtain⟨rfl,rfl,he⟩:=he
   rw[adf]at h
   obtain⟨r,h1,h2⟩:=h
   simp only[Prod.mk.injEq]at h2
   obtain⟨rfl,rfl⟩:=h2
   obtain⟨g1,g2,g3,g4⟩:=Classical.choose_spec he
   refine⟨(Classical.choose he).1,(Classical.choose he).2.1,(Classical.choose he).2.2.1,(Classical.choose he).2.2.2,r,?_,g4,h1,rfl,rfl⟩
   rw[<- g1,<- g2,<- g3]
  ·cases h
 ·cases h
theorem bX.aa7 {P:Program} {T:Nat->Option Ty} {Γ:Env} (hT:js P T) (hΓ:bB P Γ) (hm:P.follows .mixedOrders=true) {α γ:Type} {ty:Nat} {E:ig γ} {A:kZ α} {F:List γ->α->Option (List γ)} {f:FuncId} {fn:Func} (hf:P.funcs[f]? = some fn) (hok:(match fn.body with|some c=>codeOk c|none=>true)=true)
  (hc:(fn.name == "runtime.NumGoroutine")=false∧fn.body.isNone=false) (hn:∀a,(A.ds a).length+1<=fn.ntmps)
  (h:∀pre post l a r,F l a=some r->ba (.fresh ty E.size) T Γ FU fn (some (.buf 0 0 E.size pre.length l.length,⟨0,ty,pre++(ae E l++post),false,true,false⟩)) (A.ds a)=some (.fresh ty E.size r.length (ae E r),none)):bX P f (Zz ty E A F) where
 calls lent ada rk out hg:=by
  obtain⟨pre,l,post,a,r,rfl,rfl,hr,rfl,rfl⟩:=ML hg
  exact kX hT hΓ hm hf hok (hn a) rfl (h pre post l a r hr)
 callable:=⟨fn,hf,hc⟩
theorem bX.zero {P:Program} {f:FuncId} {fn:Func} (hf:P.funcs[f]? = some fn) (hc:(fn.name == "runtime.NumGoroutine")=false∧fn.body.isNone=false) {α β:Type} {A:kZ α} {F:α->Option β} {R:β->RK} (h0:∀a,F a=none):bX P f (fR A F R) where
 calls lent ada rk out hg:=by
  obtain⟨rfl,rfl,a,r,rfl,hr,rfl⟩:=xK hg
  rw[h0]at hr
  cases hr
 callable:=⟨fn,hf,hc⟩
section
variable {h:Nat->Option Row} {Γ:Env} {g e x v d:Nat} {dst:Option Nat} {fr:List Nat} {ada rest:List D} {d0:D} {T:Nat->Option Ty} {rs:List ResultVar}
def JQ (h:Nat->Option Row) (e:Nat) (dst:Option Nat) (x v:Nat) (fr:List Nat):Option (RK×Option Row)->Option bM
 | some (.clean c,some r1)=>some ⟨c,iz h fr++[(x,some { r1 with v:=v })]⟩
 | some (.same s o n,some r1)=>some ⟨.buf x v s o n,iz h fr++[(x,some { r1 with v:=v })]⟩
 | some (.fresh ty s n cells,none) =>
  match dst with
  | some d=>if fr.contains d=false then some ⟨.buf d e s 0 n,iz h fr++[(x,none),(d,some ⟨e,ty,cells,false,true,false⟩)]⟩ else none
  | none=>none
 | _=>none
def U7 (Γ:Env) (h:Nat->Option Row) (e:Nat) (dst:Option Nat) (g x v:Nat) (d0:D) (r:Row):Option (List D×List Nat)->Option bM
 | some (ada,fr)=>if fr.contains x=false then JQ h e dst x v fr (Γ.sem g (some (d0,r)) ada) else none
 | none=>none
def U6 (Γ:Env) (h:Nat->Option Row) (e:Nat) (dst:Option Nat) (g x v:Nat) (d0:D) (rest:List D):Option Row->Option bM
 | some r=>if r.fz=false then U7 Γ h e dst g x v d0 { r with v:=0 } (bk h rest) else none
 | none=>none
theorem JR {s o n:Nat} : Bt true Γ h e dst g (.buf x v s o n::rest)=U6 Γ h e dst g x v (.buf 0 0 s o n) rest (live h x v):=by
 simp only[Bt,if_true,sC]
 cases live h x v with
 | none=>rfl
 | some r =>
  simp only[U6]
  cases bk h rest with
  | none=>rfl
  | some p=>rfl
theorem Bw {r:Row} : U6 Γ h e dst g x v d0 rest (some r)=if r.fz=false then U7 Γ h e dst g x v d0 { r with v:=0 } (bk h rest) else none:=af4
theorem Bx {r:Row} : U7 Γ h e dst g x v d0 r (some (ada,fr))=if fr.contains x=false then JQ h e dst x v fr (Γ.sem g (some (d0,r)) ada) else none:=af4
theorem zo {c:D} {v' ty:Nat} {cells:List D} {fz lst:Bool} : JQ h e dst x v fr (some (.clean c,some ⟨v',ty,cells,fz,lst,false⟩))=some ⟨c,iz h fr++[(x,some ⟨v,ty,cells,fz,lst,false⟩)]⟩:=af4
theorem By {s o n v' ty:Nat} {cells:List D} {fz lst:Bool} : JQ h e dst x v fr (some (.same s o n,some ⟨v',ty,cells,fz,lst,false⟩))=some ⟨.buf x v s o n,iz h fr++[(x,some ⟨v,ty,cells,fz,lst,false⟩)]⟩:=af4
theorem zp {s n ty:Nat} {cells:List D} : JQ h e (some d) x v fr (some (.fresh ty s n cells,none))=if fr.contains d=false then some ⟨.buf d e s 0 n,iz h fr++[(x,none),(d,some ⟨e,ty,cells,false,true,false⟩)]⟩ else none:=af4
theorem zR {ty sz i:Nat} {t:Nat->D} {l:D×Row} : jd (.fresh ty sz) T (some l) [.tmp i] ⟨t,h,e⟩=mc ty sz h (t i):=af4
def aaZ (y v s o:Nat):Option Row->Option Ty->Option (Nat×Nat)->Option bM
 | some _,some φ,some (l,k)=>if φ.size=s∧0<s then some ⟨.buf y v s (o+l*s) (k-l),[]⟩ else none
 | _,_,_=>none
theorem FY {y v s o l k:Nat} {r:Row} {φ:Ty} : aaZ y v s o (some r) (some φ) (some (l,k))=if φ.size=s∧0<s then some ⟨.buf y v s (o+l*s) (k-l),[]⟩ else none:=af4
theorem RI {el b c y v s o n:Nat} {z:List Value} {q:Bool} {lo hi:Option D} : cv T ⟨.slice el,b,c,z,q⟩ h (.buf y v s o n) lo hi none=aaZ y v s o (live h y v) (T el) (te n lo hi):=by
 simp only[cv]
 cases live h y v with
 | none=>rfl
 | some r =>
  simp only
  cases T el with
  | none=>rfl
  | some φ =>
   cases te n lo hi with
   | none=>rfl
   | some p=>rfl
def Z5 (ty:Nat):Option (List D×List Nat)->Option Row->Option (RK×Option Row)
 | some (ds,fr),some r=>if r.v=0∧r.fz=false∧r.ty=ty∧r.mp=false∧fr.contains 0=false then some (.clean (mm ds),some r) else none
 | _,_=>none
theorem FV {ty:Nat} {ds:List D} {r:Row} : Z5 ty (some (ds,fr)) (some r)=if r.v=0∧r.fz=false∧r.ty=ty∧r.mp=false∧fr.contains 0=false then some (.clean (mm ds),some r) else none:=af4
theorem FW {t:Nat->D} {ty v:Nat} {cells:List D} {fz lst:Bool} : jd .clean T (some (d0,⟨v,ty,cells,fz,lst,false⟩)) rs ⟨t,h,e⟩=Z5 ty (tY T ⟨t,h,e⟩ rs) (h 0):=by
 simp only[jd,tD,lB,Yu,Z5]
 cases tY T ⟨t,h,e⟩ rs with
 | none=>rfl
 | some p =>
  obtain⟨ds,fr⟩:=p
  cases h 0 with
  | none=>rfl
  | some r =>
   simp only
   by_cases h1:r.v=0∧r.fz=false∧r.ty=ty∧r.mp=false
   ·rw[if_pos h1]
    simp only[adT]
    by_cases h2:fr.contains 0=false
    ·rw[if_pos h2,if_pos ⟨h1.1,h1.2.1,h1.2.2.1,h1.2.2.2,h2⟩]
    ·rw[if_neg h2,if_neg (fun hh=>h2 hh.2.2.2.2)]
   ·rw[if_neg h1,if_neg (fun hh=>h1 ⟨hh.1,hh.2.1,hh.2.2.1,hh.2.2.2.1⟩)]
def X9 (ty:Nat):D->Option Row->Option (RK×Option Row)
 | .buf 0 0 s o n,some r=>if r.v=0∧r.fz=false∧r.ty=ty∧r.mp=false then some (.same s o n,some r) else none
 | _,_=>none
theorem KY {ty s o n:Nat} {r:Row} : X9 ty (.buf 0 0 s o n) (some r)=if r.v=0∧r.fz=false∧r.ty=ty∧r.mp=false then some (.same s o n,some r) else none:=af4
theorem FX {t:Nat->D} {ty v i:Nat} {cells:List D} {fz lst:Bool} : jd .same T (some (d0,⟨v,ty,cells,fz,lst,false⟩)) [.tmp i] ⟨t,h,e⟩=X9 ty (t i) (h 0):=by
 simp only[jd,AV,lB]
 generalize t i=q
 cases q with
 | buf a b s o n =>
  cases h 0 with
  | none=>rcases a with _|a<;>rcases b with _|b<;>rfl
  | some r =>
   simp only
   by_cases h1:r.v=0∧r.fz=false∧r.ty=ty∧r.mp=false
   ·rcases a with _|a<;>rcases b with _|b<;>simp[X9,h1]
   ·rcases a with _|a<;>rcases b with _|b<;>simp[X9,h1]
 | _=>rfl
end
section
variable {α:Type} (E:ig α) {l m u x:List α} {y y':α} {i a b:Int} {pre post:List D}
theorem YN (h:AQ l a b=some x):ae E (l.take a.toNat)++(ae E x++ae E (l.drop b.toNat))=ae E l:=by
 unfold AQ at h
 split at h
 ·rename_i hc
  cases h
  rw[<- fl,<- fl]
  congr 1
  have e:l.drop b.toNat=(l.drop a.toNat).drop (b.toNat-a.toNat):=by rw[ae1];congr 1;omega
  rw[e,ae2,ae2]
 ·cases h
theorem YO (h:AQ l a b=some x):(ae E (l.take a.toNat)).length=a.toNat*E.size:=by
 unfold AQ at h
 split at h
 ·rw[bL,adA,aem (by omega)]
 ·cases h
theorem ZO (h:AQ l a b=some x):x.length=b.toNat-a.toNat:=by
 unfold AQ at h
 split at h
 ·cases h
  simp
  omega
 ·cases h
theorem YM:ae E (l.take i.toNat)++(ae E u++ae E (l.drop b.toNat))=ae E (l.take i.toNat++(u++l.drop b.toNat)):=by rw[fl,fl]
theorem V1 (h:P.idx l i=some y):(pre++(ae E l++post)).drop (pre.length+i.toNat*E.size)=E.cells y++(ae E (l.drop (i.toNat+1))++post):=by
 rw[<- ae1,List.drop_left,aew (by rw[bL];have:=jy E h;omega),xF E h,aev]
theorem V2 (h:P.idx l i=some y):pre.length+i.toNat*E.size+E.size<=(pre++(ae E l++post)).length:=by
 have:=jy E h
 rw[aej,aej,bL]
 omega
theorem LO (h:P.idx l i=some y):(0<=i∧i<l.length)∧(pre++(ae E l++post)).drop (pre.length+i.toNat*E.size)=E.cells y++(ae E (l.drop (i.toNat+1))++post)∧pre.length+i.toNat*E.size+E.size<=(pre++(ae E l++post)).length:=⟨oI h,V1 E h,V2 E h⟩
theorem Nr (h:P.idx l i=some y):putCells (pre++(ae E l++post)) (pre.length+i.toNat*E.size) (E.cells y')=pre++(ae E (l.set i.toNat y')++post):=by
 have h1:=WE E (x':=y') h
 have hf:=jy E h
 have hl:=bL E l
 unfold putCells at h1 ⊢
 rw[<- h1,E.len]
 have e1:(pre++(ae E l++post)).take (pre.length+i.toNat*E.size)=pre++(ae E l).take (i.toNat*E.size):=by
  rw[aey,aeA (by omega),aex,aez (by omega)]
 have e2:(pre++(ae E l++post)).drop (pre.length+i.toNat*E.size+E.size)=(ae E l).drop (i.toNat*E.size+E.size)++post:=by
  rw[adC,aeY,aeZ (by omega),aex,aeW,aew (by omega)]
 rw[e1,e2]
 simp only[aev]
theorem XG (h:AQ l a b=some x) (hu:u.length=x.length):(l.take a.toNat++(u++l.drop b.toNat)).length=l.length:=by
 have hn:=ZO h
 unfold AQ at h
 split at h
 ·simp only[aej,adA,adB]
  omega
 ·cases h
theorem YD (h:AQ l 0 b=some x):pre.length+x.length*E.size<=(pre++(ae E l++post)).length∧((pre++(ae E l++post)).drop pre.length).take (x.length*E.size)=ae E x:=by
 obtain⟨h1,h2,h3,h4,h5⟩:=Jj E h
 have:=ad3 E.size h3
 refine⟨by rw[aej,aej,bL];omega,?_⟩
 rw[List.drop_left,aez (by rw[bL];exact this),h5]
end
section
variable {h:Nat->Option Row} {Γ:Env} {e:Nat} {dst:Option Nat}
def caP:Option (D×List Nat)->Option (List D×List Nat)->Option (List D×List Nat)
 | some (d,fr),some (ds,fr')=>some (d::ds,fr++fr')
 | _,_=>none
theorem JP {d:D} {ds:List D} {fr fr':List Nat} : caP (some (d,fr)) (some (ds,fr'))=some (d::ds,fr++fr'):=af4
theorem J4:cI h []=some ([],[]):=af4
theorem Fl {d:D} {ds:List D} : cI h (d::ds)=caP (aN h d) (cI h ds):=by
 simp only[cI]
 cases aN h d with
 | none=>rfl
 | some x=>cases cI h ds<;>rfl
theorem Rg {k:IntKind} {n:Int} : aN h (.int k n)=some (.int k n,[]):=af4
theorem J3 {b:Bool} : aN h (.bool b)=some (.bool b,[]):=af4
theorem Rj {b:ByteArray} : aN h (.str b)=some (.str b,[]):=af4
theorem Vg {a b:Bool} {n:Nat} {xs:List D} : aN h (.sl a b n xs)=some (.sl false false n xs,[]):=af4
theorem Rf {xs:List D} : aN h (.agg xs)=some (.agg (xs.map canon),[]):=af4
theorem Vc {f:Nat} : aN h (.fn f)=some (.fn f,[]):=af4
def clC (f k:Nat):Option (List D×List Nat)->Option (D×List Nat)
 | some (ys,fr)=>some (.clo f k ys,fr)
 | none=>none
theorem Ke {f k:Nat} {ys:List D} {fr:List Nat} : clC f k (some (ys,fr))=some (.clo f k ys,fr):=af4
theorem J8 {f k:Nat} {xs:List D} : bp h (.clo f k xs)=clC f k (cI h xs):=by
 simp only[bp]
 cases cI h xs<;>rfl
theorem J0 {g k:Nat} {caps args:List D} : gL Γ h e dst (.clo g k caps) args=if caps.all iY then Bt false Γ h e dst g (caps.take k++(args++caps.drop k)) else none:=by
 simp only[gL,Bt,adR,if_false]
theorem Sm {k:IntKind} {n:Int} : iY (.int k n)=true:=af4
theorem Nk {b:Bool} : iY (.bool b)=true:=af4
theorem Sp {b:ByteArray} : iY (.str b)=true:=af4
theorem Wv {a b:Bool} {n:Nat} {xs:List D} : iY (.sl a b n xs)=true:=af4
theorem Sl {xs:List D} : iY (.agg xs)=true:=af4
theorem Wr {f:Nat} : iY (.fn f)=true:=af4
end
theorem Dy:mm []=.tup []:=af4
def aFn (f:Nat):Arg Unit:=⟨fun _ =>.fn f,fun _ _ _=>rfl⟩
theorem vm7:type_of% (ai @JP<|ai @J4<|ai @Fl<|ai @Rg<|ai @J3<|ai @Rj<|ai @Vg<|ai @Rf<|ai @Vc<|ai @Ke<|ai @J8<|ai @J0<|ai @Sm<|ai @Nk<|ai @Sp<|ai @Wv<|ai @Sl<|ai @Wr<|ai @Dy<|ai @xm<|ai @xp<|@AR):=⟨@JP,@J4,@Fl,@Rg,@J3,@Rj,@Vg,@Rf,@Vc,@Ke,@J8,@J0,@Sm,@Nk,@Sp,@Wv,@Sl,@Wr,@Dy,@xm,@xp,@AR⟩
theorem vm6:type_of% (ai @Nz<|ai @aeh<|ai @RI<|ai @FY<|ai @zp<|ai @zR<|ai @JR<|ai @Bw<|ai @Bx<|ai @zo<|ai @By<|ai @FV<|ai @FW<|ai @KY<|@FX):=⟨@Nz,@aeh,@RI,@FY,@zp,@zR,@JR,@Bw,@Bx,@zo,@By,@FV,@FW,@KY,@FX⟩
section
variable {T:Nat->Option Ty} {h:Nat->Option Row} {τ:Ty} {q:Nat->Bool}
theorem Wa {x v o:Nat} : mN τ h (.ptr x v o)=ng τ h x v o (live h x v):=af4
theorem Y9 {xs:List D} : mN τ h (.ip xs)=df τ h (.ip xs):=af4
theorem Y7 {x v o v' ty:Nat} {c:List D} {fz:Bool} : ng τ h x v o (some ⟨v',ty,c,fz,true,false⟩)=df τ h (.ptr x v o):=by
 simp only[ng,aeC,Bool.and_false,adR,if_false]
theorem Y8 {x v o v' ty:Nat} {c:List D} {lst:Bool} : ng τ h x v o (some ⟨v',ty,c,false,lst,false⟩)=df τ h (.ptr x v o):=by
 simp only[ng,afd,adR,if_false]
def ldA:Option D->Option bM->Option bM
 | some d,_=>some ⟨d,[]⟩
 | none,E=>E
theorem L4 {d:D} {E:Option bM} : ldA (some d) E=some ⟨d,[]⟩:=af4
theorem L3 {E:Option bM} : ldA none E=E:=af4
theorem Y6 {x v o v' ty:Nat} {c:List D} : ng τ h x v o (some ⟨v',ty,c,true,false,false⟩)=if o+τ.size<=c.length then ldA (OD τ.ds.nV ((c.drop o).take τ.size)) (df τ h (.ptr x v o)) else none:=by
 simp only[ng,afe,Bool.and_self,if_true]
 cases OD τ.ds.nV ((c.drop o).take τ.size)<;>rfl
theorem UR {x v s o n:Nat} : OD true [.ali x v s o n]=some (.box1 x v s o n):=af4
theorem UQ {x v s o n:Nat} : OD false [.ali x v s o n]=some (.buf x v s o n):=af4
theorem SP {p:D} {k:IntKind} {n:Int} : cO τ h p (.int k n)=cC τ h p (.int k n):=af4
theorem N7 {p:D} {b:Bool} : cO τ h p (.bool b)=cC τ h p (.bool b):=af4
theorem SR {p:D} {b:ByteArray} : cO τ h p (.str b)=cC τ h p (.str b):=af4
theorem W2 {p:D} {a b:Bool} {n:Nat} {xs:List D} : cO τ h p (.sl a b n xs)=cC τ h p (.sl a b n xs):=af4
theorem SQ {p:D} {x v o:Nat} : cO τ h p (.ptr x v o)=cC τ h p (.ptr x v o):=af4
theorem WY {p:D} {xs:List D} : cO τ h p (.ip xs)=cC τ h p (.ip xs):=af4
theorem SN {p:D} {x v s o n:Nat} : cO τ h p (.buf x v s o n)=cC τ h p (.buf x v s o n):=af4
theorem SL {p:D} {xs:List D} : cO τ h p (.agg xs)=cC τ h p (.agg xs):=af4
theorem WX {p:D} {f:Nat} : cO τ h p (.fn f)=cC τ h p (.fn f):=af4
theorem SO {p:D} {f k:Nat} {xs:List D} : cO τ h p (.clo f k xs)=cC τ h p (.clo f k xs):=af4
theorem SS {p:D}  : cO τ h p (.und)=cC τ h p (.und):=af4
def abu (τ:Ty) (x o y vy s oy n:Nat):Option Row->Option bM
 | some r=>if τ.size=1∧o=0∧r.cells.length=1∧r.fz=false∧r.lst=false then some ⟨.und,[(x,some ⟨r.v,r.ty,[.ali y vy s oy n],true,false,false⟩)]⟩ else none
 | none=>none
theorem HL {x o y vy s oy n:Nat} {r:Row} : abu τ x o y vy s oy n (some r)=if τ.size=1∧o=0∧r.cells.length=1∧r.fz=false∧r.lst=false then some ⟨.und,[(x,some ⟨r.v,r.ty,[.ali y vy s oy n],true,false,false⟩)]⟩ else none:=af4
theorem SM {x v o y vy s oy n:Nat} : cO τ h (.ptr x v o) (.box1 y vy s oy n)=abu τ x o y vy s oy n (live h x v):=by
 simp only[cO]
 cases live h x v<;>rfl
def JL (b:Bool) (T:Nat->Option Ty) (τ:Ty) (h:Nat->Option Row) (ps:List (Nat×D)):Option bM :=
 if b then eu T τ h ps else
  match τ.ds,ps with
  | .struct fs,[(0,.buf x v s o n)]=>if (alive h (.buf x v s o n))∧(fs.all fun f=>(T f.1).isSome)∧fieldAt T fs 0=some (0,1)∧τ.zero.length=1 then some ⟨.box1 x v s o n,[]⟩ else none
  | .struct fs,[(0,.box1 x v s o n)]=>if (alive h (.buf x v s o n))∧(fs.all fun f=>(T f.1).isSome)∧fieldAt T fs 0=some (0,1)∧τ.zero.length=1 then some ⟨.box1 x v s o n,[]⟩ else none
  | _,_=>cE (eu T τ h ps)
theorem Rb {d:Nat} {ps:List (Nat×D)} : ow q T τ h (some d) ps=JL (q d) T τ h ps:=af4
theorem E2:JL false T τ h []=cE (eu T τ h []):=by
 unfold JL
 rw[if_neg (by simp)]
 cases τ.ds<;>rfl
theorem U2 {cs:List D} {hw:List (Nat×Option Row)} : cE (some ⟨.agg cs,hw⟩)=some ⟨.agg (cs.map canon),hw⟩:=af4
theorem E3 {ps:List (Nat×D)} : JL true T τ h ps=eu T τ h ps:=af4
def UZ (T:Nat->Option Ty) (h:Nat->Option Row) (nz x v s o n:Nat):Ds->Option bM
 | .struct fs=>if (alive h (.buf x v s o n))∧(fs.all fun f=>(T f.1).isSome)∧fieldAt T fs 0=some (0,1)∧nz=1 then some ⟨.box1 x v s o n,[]⟩ else none
 | _=>none
theorem U0 {nz x v s o n:Nat} {fs:List (Nat×Nat)} : UZ T h nz x v s o n (.struct fs)=if (alive h (.buf x v s o n))∧(fs.all fun f=>(T f.1).isSome)∧fieldAt T fs 0=some (0,1)∧nz=1 then some ⟨.box1 x v s o n,[]⟩ else none:=af4
theorem JM {x v s o n:Nat} : JL false T τ h [(0,.box1 x v s o n)]=UZ T h τ.zero.length x v s o n τ.ds:=by
 unfold JL UZ eu
 rw[if_neg (by simp)]
 cases τ.ds<;>rfl
theorem Bp {x v s o n:Nat} : JL false T τ h [(0,.buf x v s o n)]=UZ T h τ.zero.length x v s o n τ.ds:=by
 unfold JL UZ eu
 rw[if_neg (by simp)]
 cases τ.ds<;>rfl
def clX:Option (D×List Nat)->Option (D×List Nat)
 | some (d,fr)=>some (.agg [d],fr)
 | none=>none
theorem Kl {d:D} {fr:List Nat} : clX (some (d,fr))=some (.agg [d],fr):=af4
theorem J6 {x v s o n:Nat} : bp h (.box1 x v s o n)=clX (X0 x s o n (live h x v)):=by
 simp only[bp,aN,cU]
 cases live h x v with
 | none=>rfl
 | some r=>by_cases hc:o+n*s<=r.cells.length<;>simp[X0,clX,hc,canon]
theorem Wo {x v s o n:Nat} : nm (.box1 x v s o n)=[x]:=af4
theorem ES {x v s o n:Nat} : alive h (.buf x v s o n)=(mS h x v).isSome:=af4
theorem F3 {fs:List (Nat×Nat)} {ft off:Nat} : fieldAt T ((ft,off)::fs) 0=(T ft).map fun φ=>(off,φ.size):=by
 simp only[fieldAt,List.getElem?_cons_zero]
 cases T ft<;>rfl
end
theorem vm8:type_of% (ai @Wa<|ai @Y9<|ai @Y7<|ai @Y8<|ai @L4<|ai @L3<|ai @Y6<|ai @UR<|ai @UQ<|ai @SP<|ai @N7<|ai @SR<|ai @W2<|ai @SQ<|ai @WY<|ai @SN<|ai @SL<|ai @WX<|ai @SO<|ai @SS<|ai @SM<|ai @HL<|ai @Rb<|ai @E3<|ai @U0<|ai @Bp<|ai @E2<|ai @JM<|ai @U2<|ai @Kl<|ai @J6<|ai @Wo<|ai @ES<|@F3):=⟨@Wa,@Y9,@Y7,@Y8,@L4,@L3,@Y6,@UR,@UQ,@SP,@N7,@SR,@W2,@SQ,@WY,@SN,@SL,@WX,@SO,@SS,@SM,@HL,@Rb,@E3,@U0,@Bp,@E2,@JM,@U2,@Kl,@J6,@Wo,@ES,@F3⟩
theorem abU:type_of% (ai @Ux<|ai @YQ<|ai @Hq<|ai @SA<|ai @WO<|ai @WN<|ai @MQ<|ai @MP<|ai @ZF<|ai @Gd<|ai @Gc<|ai @K8<|ai @GL<|ai @CY<|ai @MS<|ai @Sj<|ai @Sr<|ai @Sz<|ai @Mg<|ai @We<|ai @R5<|ai @Gm<|ai @R3<|ai @L5<|ai @Gn<|ai @L6<|ai @R4<|ai @SG<|ai @HC<|ai @HD<|ai @Hs<|ai @HF<|ai @HB<|ai @N1<|ai @HE<|ai @N2<|ai @SF<|ai @N0<|ai @HJ<|@jv):=⟨@Ux,@YQ,@Hq,@SA,@WO,@WN,@MQ,@MP,@ZF,@Gd,@Gc,@K8,@GL,@CY,@MS,@Sj,@Sr,@Sz,@Mg,@We,@R5,@Gm,@R3,@L5,@Gn,@L6,@R4,@SG,@HC,@HD,@Hs,@HF,@HB,@N1,@HE,@N2,@SF,@N0,@HJ,@jv⟩
theorem abV:type_of% (ai @RM<|ai @L0<|ai @LJ<|ai @LS<|ai @LA<|ai @GH<|ai @M6<|ai @C2<|ai @M8<|ai @M7<|ai @GP<|ai @M5<|ai @M4<|ai @Hw<|ai @HH<|ai @Hv<|ai @HG<|ai @SC<|ai @SH<|ai @Hy<|ai @HI<|ai @NV<|ai @N3<|ai @Gy<|ai @Gz<|ai @NY<|ai @Hz<|ai @NZ<|ai @HA<|ai @SE<|ai @NX<|ai @EW<|ai @EV<|@mS.eq_1):=⟨@RM,@L0,@LJ,@LS,@LA,@GH,@M6,@C2,@M8,@M7,@GP,@M5,@M4,@Hw,@HH,@Hv,@HG,@SC,@SH,@Hy,@HI,@NV,@N3,@Gy,@Gz,@NY,@Hz,@NZ,@HA,@SE,@NX,@EW,@EV,@mS.eq_1⟩
theorem abW:type_of% (ai @VQ<|ai @R1<|ai @RW<|ai @RZ<|ai @RS<|ai @Sk<|ai @GG<|ai @GJ<|ai @Mk<|ai @Mn<|ai @CO<|ai @Mo<|ai @Mm<|ai @Gt<|ai @Mj<|ai @Mi<|ai @Ml<|ai @M0<|ai @MX<|ai @C1<|ai @M3<|ai @MZ<|ai @GO<|ai @MW<|ai @MV<|ai @MY<|ai @Ff<|ai @zy<|ai @zw<|ai @zx<|ai @Ko<|ai @Kp<|ai @VI<|ai @Rz<|ai @VH<|ai @Ry<|ai @KK<|ai @KL<|ai @KM<|ai @JV<|ai @Fe<|ai @NT<|ai @Ht<|ai @NU<|ai @Hu<|ai @xz<|ai @dn<|ai @xy<|ai @dm<|ai @RG<|ai @KX<|ai @RD<|ai @FT<|@KV):=⟨@VQ,@R1,@RW,@RZ,@RS,@Sk,@GG,@GJ,@Mk,@Mn,@CO,@Mo,@Mm,@Gt,@Mj,@Mi,@Ml,@M0,@MX,@C1,@M3,@MZ,@GO,@MW,@MV,@MY,@Ff,@zy,@zw,@zx,@Ko,@Kp,@VI,@Rz,@VH,@Ry,@KK,@KL,@KM,@JV,@Fe,@NT,@Ht,@NU,@Hu,@xz,@dn,@xy,@dm,@RG,@KX,@RD,@FT,@KV⟩
theorem v:type_of% (ai @vmc<|ai @vmk<|ai @vm1<|ai @vm2<|ai @vm3<|ai @vm4<|ai @vm5<|ai @vm6<|ai @vm7<|ai @vm8<|ai @abS<|ai @abU<|ai @abV<|ai @abW<|ai @vmu<|ai @Option.toList_some.{0}<|@Option.toList_none.{0}):=⟨@vmc,@vmk,@vm1,@vm2,@vm3,@vm4,@vm5,@vm6,@vm7,@vm8,@abS,@abU,@abV,@abW,@vmu,@Option.toList_some.{0},@Option.toList_none.{0}⟩
def CS {α:Type} : List (Int×α)->List Int
 | []=>[]
 | (k,_)::m=>k::CS m
def T5 {α:Type} (A:Arg α):List (Int×α)->List D
 | []=>[]
 | (_,v)::m=>A.d v::T5 A m
section
variable {α:Type} {A:Arg α}
theorem MG:CS ([]:List (Int×α))=[]:=af4
theorem MK:T5 A []=[]:=af4
theorem MF (n:Int):∀m:List (Int×α),(CS m).contains n=Yc m n
 | []=>rfl
 | (k,v)::m=>by
  have:=MF n m
  simp only[CS,aeh,Yc,this]
  congr 1
  exact Bool.beq_comm
theorem map_inj:∀ {m m':List (Int×α)},CS m=CS m'->T5 A m=T5 A m'->m=m'
 | [],[],_,_=>rfl
 | [],(k,v)::m',h,_=>by simp[CS]at h
 | (k,v)::m,[],h,_=>by simp[CS]at h
 | (k,v)::m,(k',v')::m',h,g=>by
  simp only[CS,adF]at h
  simp only[T5,adF]at g
  rw[h.1,A.inj _ _ g.1,map_inj h.2 g.2]
end
def eMp {α:Type} (A:Arg α):ig (List (Int×α)):=⟨fun m=>[.mpc (CS m) (T5 A m)],1,fun _=>rfl,by decide,fun x y h=>by
 simp only[adF,D.mpc.injEq,and_true]at h
 exact map_inj h.1 h.2⟩
theorem KN {α:Type} (A:Arg α):(eMp A).size=1:=af4
def aIp {α:Type} (e:ig α):Arg α:=⟨fun x =>.ip (e.cells x),fun x y h=>e.inj _ _ (by simpa using h)⟩
theorem Y0 {α:Type} (e:ig α) (x:α):(aIp e).d x=.ip (e.cells x):=af4
section
variable {T:Nat->Option Ty} {h:Nat->Option Row} {Γ:Env} {e:Nat} {dst:Option Nat}
def lvM (v:Nat):Option Row->Option (List Int×List D)
 | some r=>if r.v=v∧r.mp=true then (match r.cells with | [.mpc ks vs]=>some (ks,vs)|_=>none) else none
 | none=>none
theorem Mf {x v:Nat} : hZ h x v=lvM v (h x):=by
 unfold hZ lvM
 cases h x<;>rfl
theorem Mq {v ty:Nat} {ks:List Int} {vs:List D} {fz lst:Bool} : lvM v (some ⟨v,ty,[.mpc ks vs],fz,lst,true⟩)=some (ks,vs):=by simp[lvM]
def lkK (ks:List Int) (n:Int):Bool:=ks.contains n
theorem R8 {α:Type} {m:List (Int×α)} {n:Int} : lkK (CS m) n=Yc m n:=MF n m
def lkE (ok:Bool) (z:D) (n:Int):Option (List Int×List D)->Option bM
 | some (ks,vs)=>some ⟨if ok then .tup [sG z ks vs n,.bool (lkK ks n)] else sG z ks vs n,[]⟩
 | none=>none
theorem Zx {z:D} {n:Int} {ks:List Int} {vs:List D} : lkE true z n (some (ks,vs))=some ⟨.tup [sG z ks vs n,.bool (lkK ks n)],[]⟩:=af4
theorem Zw {z:D} {n:Int} {ks:List Int} {vs:List D} : lkE false z n (some (ks,vs))=some ⟨sG z ks vs n,[]⟩:=af4
theorem MI {x v:Nat} : mapOf h (.mp x v)=hZ h x v:=af4
theorem Gv {ks:List Int} {vs:List D} : mapOf h (.mpc ks vs)=some (ks,vs):=af4
def muR (h:Nat->Option Row) (y:Nat) (n:Int) (d:D) (fr:List Nat) (ks:List Int) (vs:List D):Option Row->Option bM
 | some r=>if r.fz=false∧fr.contains y=false then some ⟨.und,iz h fr++[(y,some ⟨r.v,r.ty,[.mpc (AN ks n) (Ja ks vs n d)],false,true,true⟩)]⟩ else none
 | none=>none
theorem MO {y v ty:Nat} {n:Int} {d:D} {fr:List Nat} {ks:List Int} {vs:List D} {cells:List D} {lst mp:Bool} : muR h y n d fr ks vs (some ⟨v,ty,cells,false,lst,mp⟩)=if fr.contains y=false then some ⟨.und,iz h fr++[(y,some ⟨v,ty,[.mpc (AN ks n) (Ja ks vs n d)],false,true,true⟩)]⟩ else none:=by
 simp only[muR,true_and]
def muM (h:Nat->Option Row) (y:Nat) (n:Int) (d:D) (fr:List Nat):Option (List Int×List D)->Option bM
 | some (ks,vs)=>muR h y n d fr ks vs (h y)
 | none=>none
theorem MN {y:Nat} {n:Int} {d:D} {fr:List Nat} {ks:List Int} {vs:List D} : muM h y n d fr (some (ks,vs))=muR h y n d fr ks vs (h y):=af4
def muE (h:Nat->Option Row) (y v:Nat) (n:Int):Option (D×List Nat)->Option bM
 | some (d,fr)=>muM h y n d fr (hZ h y v)
 | none=>none
theorem MM {y v:Nat} {n:Int} {d:D} {fr:List Nat} : muE h y v n (some (d,fr))=muM h y n d fr (hZ h y v):=af4
theorem Of {k:IntKind} {n:Int} : wX h (.int k n)=some (.int k n,[]):=af4
theorem HS {b:Bool} : wX h (.bool b)=some (.bool b,[]):=af4
theorem Oe {xs:List D} : wX h (.agg xs)=some (.agg (xs.map canon),[]):=af4
def ldP (τ:Ty) (h:Nat->Option Row) (x v y:Nat):Option Row->Option bM
 | some r=>match r.cells with
  | [.alm y' v']=>if r.fz=true∧r.lst=false∧τ.size=1∧τ.ds.nV=false then some ⟨.mp y' v',[]⟩ else none
  | _=>none
 | none=>oA τ h x v y (kJ h x v)
theorem Zh {τ:Ty} {x v y:Nat} : mN τ h (.pm x v y)=ldP τ h x v y (live h x v):=by
 simp only[mN]
 cases live h x v with
 | none=>rfl
 | some r =>
  obtain⟨v',ty,cells,fz,lst,mp⟩:=r
  rcases cells with _|⟨c,_|⟨c',cs⟩⟩<;>rfl
theorem L7 {τ:Ty} {x v y:Nat} : ldP τ h x v y none=oA τ h x v y (kJ h x v):=af4
def ldQ (τ:Ty) (h:Nat->Option Row) (x y s n:Nat):Option Row->Option bM
 | some r=>if y=1000000+x∧r.mp=false∧r.lst=true∧r.cells.length=n*s∧τ.size=1 then some ⟨if τ.ds.nV then .agg [.sl false false n r.cells] else .sl false false n r.cells,iz h [y]⟩ else none
 | none=>none
theorem V9 {τ:Ty} {r:Row} {x v y s n:Nat} : oA τ h x v y (some (r,y,s,n))=ldQ τ h x y s n (h y):=by
 simp only[oA,ldQ,PK]
 cases h y with
 | none=>rfl
 | some q=>simp
theorem L9 {ty b:Nat} {ds:Ds} {z:List Value} {q:Bool} {x y s n e':Nat} {cells:List D} {fz:Bool} : ldQ ⟨ds,1,b,z,q⟩ h x y s n (some ⟨e',ty,cells,fz,true,false⟩)=if y=1000000+x∧cells.length=n*s then some ⟨if ds.nV then .agg [.sl false false n cells] else .sl false false n cells,iz h [y]⟩ else none:=by
 simp[ldQ]
def Z8 (T:Nat->Option Ty) (x v k:Nat):Option (Row×Nat×Nat×Nat)->Option (Nat×Nat)->Option bM
 | some _,some (ft,0)=>match T ft with|some φ=>if φ.size=0 then none else some ⟨.pm x v k,[]⟩|none=>none
 | _,_=>none
theorem Gb {T:Nat->Option Ty} {x v k ft:Nat} {r:Row×Nat×Nat×Nat} : Z8 T x v k (some r) (some (ft,0))=match T ft with|some φ=>if φ.size=0 then none else some ⟨.pm x v k,[]⟩|none=>none:=af4
theorem VT {T:Nat->Option Ty} {b c:Nat} {z:List Value} {q:Bool} {fs:List (Nat×Nat)} {x v k i:Nat} : dw T ⟨.struct fs,b,c,z,q⟩ h i (.pm x v k)=Z8 T x v k (kJ h x v) fs[i]?:=by
 simp only[dw,Z8]
 cases kJ h x v with
 | none=>rfl
 | some r=>simp only;generalize fs[i]? = z;rcases z with _|⟨ft,_|off⟩<;>first|rfl|(simp;done)|(simp only;cases T ft<;>rfl)
def SK (x y s oy n k : Nat) : Option Row -> Option Row -> Option bM
  | some r, some q => if oy = 0 ∧ r.cells.length = 1 ∧ r.fz = false ∧ r.lst = false ∧ q.fz = false ∧ q.lst = true ∧ q.cells.length = n * s ∧ x ≠ y ∧ k = 1000000 + x ∧ x < 1000000 then
          some ⟨.und, [(y, none), (k, some ⟨0, q.ty, q.cells, false, true, false⟩), (x, some ⟨r.v, r.ty, [.ph k s n], false, false, true⟩)]⟩ else none
  | _, _ => none
theorem W0 {ds:Ds} {b:Nat} {z:List Value} {q:Bool} {x v y vy s oy n k:Nat} : cO ⟨ds,1,b,z,q⟩ h (.pm x v k) (.box1 y vy s oy n)=SK x y s oy n k (live h x v) (live h y vy):=by
 simp only[cO,SK,PK,true_and]
 cases live h x v with
 | none=>rfl
 | some r=>cases live h y vy<;>rfl
theorem DQ {x y s oy n k v ty e' ty':Nat} {c:D} {cells:List D} : SK x y s oy n k (some ⟨v,ty,[c],false,false,false⟩) (some ⟨e',ty',cells,false,true,false⟩)=if oy=0∧cells.length=n*s∧¬x=y∧k=1000000+x∧x<1000000 then
  some ⟨.und,[(y,none),(k,some ⟨0,ty',cells,false,true,false⟩),(x,some ⟨v,ty,[.ph k s n],false,false,true⟩)]⟩ else none:=by
 simp[SK]
theorem L8 {v ty y' v':Nat} {b k el:Nat} {z:List Value} {q mp:Bool} {x0 v0 y0:Nat} : ldP ⟨.map k el,1,b,z,q⟩ h x0 v0 y0 (some ⟨v,ty,[.alm y' v'],true,false,mp⟩)=some ⟨.mp y' v',[]⟩:=by
 simp[ldP,Ds.nV]
def YJ (τ:Ty) (x y y' v':Nat) (m:Bool):Option Row->Option bM
 | some r=>if τ.size=1∧y'=y∧r.cells.length=1∧r.fz=false∧r.lst=false∧m then some ⟨.und,[(x,some ⟨r.v,r.ty,[.alm y' v'],true,false,false⟩)]⟩ else none
 | none=>none
theorem WZ {τ:Ty} {x v y y' v':Nat} : cO τ h (.pm x v y) (.mp y' v')=YJ τ x y y' v' (hZ h y v').isSome (live h x v):=by
 simp only[cO,YJ]
 cases live h x v<;>rfl
theorem HK {x y v' v ty:Nat} {c:D} {b:Nat} {ds:Ds} {z:List Value} {q mp:Bool} : YJ ⟨ds,1,b,z,q⟩ x y y v' true (some ⟨v,ty,[c],false,false,mp⟩)=some ⟨.und,[(x,some ⟨v,ty,[.alm y v'],true,false,false⟩)]⟩:=by
 simp[YJ]
theorem ZA {x v:Nat} : nm (.mp x v)=[x]:=af4
theorem Wp {ks:List Int} {vs:List D} : nm (.mpc ks vs)=[]:=af4
theorem ZB {x v y:Nat} : nm (.pm x v y)=[x,y]:=af4
def clM (x:Nat):Option (List Int×List D)->Option (D×List Nat)
 | some (ks,vs)=>some (.mpc ks vs,[x])
 | none=>none
theorem Kg {x:Nat} {ks:List Int} {vs:List D} : clM x (some (ks,vs))=some (.mpc ks vs,[x]):=af4
theorem Rm {x v:Nat} : bp h (.mp x v)=clM x (hZ h x v):=by
 simp only[bp,aN,clM]
 cases hZ h x v<;>rfl
theorem Ka {ks:List Int} {vs:List D} : bp h (.mpc ks vs)=some (.mpc ks vs,[]):=af4
theorem Ve {x v:Nat} : aN h (.mp x v)=clM x (hZ h x v):=by
 simp only[aN,clM]
 cases hZ h x v<;>rfl
theorem Rh {ks:List Int} {vs:List D} : aN h (.mpc ks vs)=some (.mpc ks vs,[]):=af4
theorem Vd {xs:List D} : aN h (.ip xs)=some (.ip xs,[]):=af4
theorem Ri {x v o:Nat} : aN h (.ptr x v o)=clP x o (live h x v):=by
 simp only[aN]
 cases live h x v with
 | none=>rfl
 | some r=>simp only[clP]
def clN (x y:Nat):Option (List Int×List D)->Option (D×List Nat)
 | some (ks,vs)=>some (.ip [.mpc ks vs],[x,y])
 | none=>none
theorem Kh {x y:Nat} {ks:List Int} {vs:List D} : clN x y (some (ks,vs))=some (.ip [.mpc ks vs],[x,y]):=af4
def clQ (h:Nat->Option Row) (x y:Nat):Option Row->Option (D×List Nat)
 | some r=>match r.cells with
  | [.alm y' v']=>if r.fz=true∧r.lst=false∧y'=y then clN x y (hZ h y v') else none
  | _=>none
 | none=>none
theorem Kk {x y v' v ty:Nat} {mp:Bool} : clQ h x y (some ⟨v,ty,[.alm y v'],true,false,mp⟩)=clN x y (hZ h y v'):=by
 simp[clQ]
theorem Vf {x v y:Nat} : aN h (.pm x v y)=clQ h x y (live h x v):=by
 simp only[aN]
 cases live h x v with
 | none=>rfl
 | some r =>
  obtain⟨v',ty,cells,fz,lst,mp⟩:=r
  rcases cells with _|⟨c,_|⟨c',cs⟩⟩<;>rfl
theorem So {x v o:Nat} : iY (.ptr x v o)=true:=af4
theorem Wu {x v y:Nat} : iY (.pm x v y)=true:=af4
theorem Ws {xs:List D} : iY (.ip xs)=true:=af4
theorem Wt {x v:Nat} : iY (.mp x v)=true:=af4
theorem Sn {ks:List Int} {vs:List D} : iY (.mpc ks vs)=true:=af4
theorem VW {v ty:Nat} {cells:List D} {fz mp:Bool} : qk ⟨v,ty,cells,fz,true,mp⟩=⟨v,ty,cells,true,true,mp⟩:=by cases fz<;>rfl
theorem RV {d:Nat} : a7.hint d=none:=af4
theorem LG {f:Nat} {l:Bool} {G:Option (D×Row)->List D->Option (RK×Option Row)} {d:Nat} : (Am.ext Γ f l G).hint d=Γ.hint d:=af4
theorem Gj {d i:Nat} : (Am.keep d Γ).hint i=Γ.hint i:=af4
theorem Gi {d y i:Nat} : (Am.vU d y Γ).hint i=if i=d then some y else Γ.hint i:=af4
theorem LM {d y i:Nat} : (Am.vU d y Γ).own i=Γ.own i:=af4
theorem CE {d y i:Nat} : (Am.vU d y Γ).lends i=Γ.lends i:=af4
theorem LN {d y i:Nat} {lent:Option (D×Row)} {ada:List D} : (Am.vU d y Γ).sem i lent ada=Γ.sem i lent ada:=af4
theorem Ga {ks:List Int} {vs:List D} : fQ (.mpc ks vs)=false:=af4
theorem Fj {ks:List Int} {vs:List D} : canon (.mpc ks vs)=.mpc ks vs:=af4
theorem BE {ks:List Int} {vs:List D} : fe (.mpc ks vs)=.mpc ks vs:=af4
end
structure sN {α:Type} (E:ig α) (C:List D) (o:Nat) (l:List α):Prop where
 fit:o+l.length*E.size<=C.length
 eq:(C.drop o).take (l.length*E.size)=ae E l
theorem sN.self {α:Type} (E:ig α) (l:List α):sN E (ae E l) 0 l:=⟨by rw[bL];omega,by rw[aeB,<- bL,afg]⟩
theorem sN.split {α:Type} {E:ig α} {C:List D} {o:Nat} {l:List α} (F:sN E C o l):C.drop o=ae E l++C.drop (o+l.length*E.size):=by
 rw[<- ae1]
 conv=>lhs;rw[<- ae2 (l.length*E.size) (C.drop o)]
 rw[F.eq]
theorem sN.idx {α:Type} {E:ig α} {C:List D} {o:Nat} {l:List α} {i:Int} {x:α} (F:sN E C o l) (h:P.idx l i=some x):o+i.toNat*E.size+E.size<=C.length∧∃rest,C.drop (o+i.toNat*E.size)=E.cells x++rest:=by
 have h1:=jy E h
 have h2:=F.fit
 refine⟨by omega,ae E (l.drop (i.toNat+1))++C.drop (o+l.length*E.size),?_⟩
 rw[<- ae1,F.split,aew (by rw[bL];omega),xF E h,aev]
theorem sN.tail {α:Type} {E:ig α} {C:List D} {o:Nat} {l m:List α} {a:Int} (F:sN E C o l) (h:AQ l a (l.length:Int)=some m):sN E C (o+a.toNat*E.size) m:=by
 obtain⟨h1,h2,h3,h4,h5⟩:=WQ E h
 have h6:=F.fit
 have h7:a.toNat*E.size+m.length*E.size=l.length*E.size:=by rw[<- aen];congr 1;omega
 refine⟨by omega,?_⟩
 rw[<- ae1,F.split,aew (by rw[bL];omega),aez (by rw[adB,bL];omega),h5]
theorem abX:type_of% (ai @MG<|ai @MK<|ai @Mf<|ai @Mq<|ai @R8<|ai @Zx<|ai @Zw<|ai @MI<|ai @Gv<|ai @MO<|ai @MN<|ai @MM<|ai @Of<|ai @HS<|ai @Oe<|ai @Zh<|ai @L8<|ai @WZ<|ai @HK<|ai @ZA<|ai @Wp<|@ZB):=⟨@MG,@MK,@Mf,@Mq,@R8,@Zx,@Zw,@MI,@Gv,@MO,@MN,@MM,@Of,@HS,@Oe,@Zh,@L8,@WZ,@HK,@ZA,@Wp,@ZB⟩
theorem abY:type_of% (ai @Kg<|ai @Rm<|ai @Ka<|ai @Ve<|ai @Rh<|ai @Vd<|ai @Ri<|ai @Kh<|ai @Kk<|ai @Vf<|ai @So<|ai @Wu<|ai @Ws<|ai @Wt<|ai @Sn<|ai @VX<|ai @VV<|ai @VW<|ai @RV<|ai @LG<|ai @Gj<|ai @Gi<|ai @LM<|ai @CE<|ai @LN<|ai @G0<|ai @GZ<|ai @Ga<|ai @Fj<|ai @BE<|ai @KN<|@Y0):=⟨@Kg,@Rm,@Ka,@Ve,@Rh,@Vd,@Ri,@Kh,@Kk,@Vf,@So,@Wu,@Ws,@Wt,@Sn,@VX,@VV,@VW,@RV,@LG,@Gj,@Gi,@LM,@CE,@LN,@G0,@GZ,@Ga,@Fj,@BE,@KN,@Y0⟩
theorem abZ:type_of% (ai @zH<|ai @zL<|ai @BT<|ai @BW<|ai @vM<|ai @vQ<|ai @BS<|ai @BV<|ai @wb<|ai @yi<|ai @sM<|ai @yh<|ai @UW<|ai @Q3<|@UX):=⟨@zH,@zL,@BT,@BW,@vM,@vQ,@BS,@BV,@wb,@yi,@sM,@yh,@UW,@Q3,@UX⟩
theorem abT:type_of% (ai @L7<|ai @V9<|ai @L9<|ai @W0<|ai @DQ<|ai @Gb<|@VT):=⟨@L7,@V9,@L9,@W0,@DQ,@Gb,@VT⟩
theorem vi:type_of% (ai @abX<|ai @abY<|ai @abT<|@abZ):=⟨@abX,@abY,@abT,@abZ⟩
end Go.Proofs.Ytchndpjlijbplaa.Am
namespace Go.Proofs.Ytchndpjlijbplaa.P
open Go.RowKit
set_option linter.unusedSimpArgs false
set_option linter.unusedVariables false
theorem wrap64 {x:Int} (h1 : -9223372036854775808<=x) (h2:x<9223372036854775808):IntKind.i64.wrap x=x:=by
 have key:IntKind.i64.wrap x=if x % 18446744073709551616>=9223372036854775808 then x % 18446744073709551616-18446744073709551616 else x % 18446744073709551616:=by
  unfold IntKind.wrap
  by_cases h:x % 18446744073709551616>=9223372036854775808
  ·rw[if_pos h];exact if_pos (by simpa [IntKind.bits,IntKind.signed] using h)
  ·rw[if_neg h];exact if_neg (by simpa [IntKind.bits,IntKind.signed] using h)
 rw[key]
 split<;>omega
theorem LP {α:Type} {l:List α} {i:Int} {x:α} (h0:0<=i) (h:l[i.toNat]? = some x):P.idx l i=some x:=by
 have:=(adK.1 h).1
 unfold P.idx
 rw[if_pos ⟨h0,by omega⟩,h]
theorem bQ {α:Type} {l:List α} {i:Nat} (h:i<l.length):P.idx l (i:Int)=some (l[i]):=LP (by omega) (by simp[h])
theorem Ji {α:Type} {l:List α} {i:Nat} (h:i<=l.length):AQ l 0 (i:Int)=some (l.take i):=by
 unfold AQ
 rw[if_pos ⟨by omega,by omega,by omega⟩]
 simp
end Go.Proofs.Ytchndpjlijbplaa.P
namespace Go.Proofs.Ytchndpjlijbplaa.Am
open Go.RowKit Go.Deep Go.ChangeShapes Go.WideShapes
set_option linter.unusedSimpArgs false
set_option linter.unusedVariables false
def Bh (T:Nat->Option Ty):Nat->Nat->List D->Prop
 | 0,_,_=>False
 | n+1,t,xs =>
  match T t with
  | none=>False
  | some τ=>xs.length=τ.size ∧
   match τ.ds with
   | .int k=>∃i,xs=[.int k i]∧(Lit.int k i).wf=true
   | .bool=>∃b,xs=[.bool b]
   | .str=>∃s:ByteArray,xs=[.str s]∧s.size<=140737488351232
   | .slice e=>∃len ys φ,xs=[.sl false false len ys]∧len*φ.bytes<=140737488351232∧T e=some φ∧ys.length=len*φ.size∧∀i,i<len->Bh T n e ((ys.drop (i*φ.size)).take φ.size)
   | .struct fs=>∀f∈fs,∃φ,T f.1=some φ∧Bh T n f.1 ((xs.drop f.2).take φ.size)
   | .arr m e=>∃φ,T e=some φ∧∀i,i<m->Bh T n e ((xs.drop (i*φ.size)).take φ.size)
   | .map _ _=>False
   | .other=>False
def zX (T:Nat->Option Ty):Nat->List (Nat×Nat)->Nat->Bool
 | o,[],z=>o==z
 | o,(ft,off)::fs,z=>off==o&&match T ft with|some φ=>zX T (o+φ.size) fs z|none=>false
def T9 (T:Nat->Option Ty):Nat->Nat->Bool
 | 0,_=>false
 | n+1,t =>
  match T t with
  | none=>false
  | some τ =>
   match τ.ds with
   | .int _ | .bool | .str=>τ.size==1
   | .slice e=>τ.size==1&&T9 T n e&&(match T e with|some φ=>decide (0<φ.size)|none=>false)
   | .struct fs=>zX T 0 fs τ.size&&fs.all fun f=>T9 T n f.1
   | .arr m e=>T9 T n e&&(match T e with|some φ=>τ.size==m*φ.size|none=>false)
   | .map _ _=>false
   | .other=>false
def lZ (w:World) (M:Nat->Prop) (xs:List D) (cs:List Value):Prop:=xs.length=cs.length∧∀(j:Nat) (x:D),xs[j]? = some x->aV x=true∧∃v,cs[j]? = some v∧RP w M x v
theorem lZ.append {w:World} {M:Nat->Prop} {xs ys:List D} {cs ds:List Value} (h:lZ w M xs cs) (k:lZ w M ys ds):lZ w M (xs++ys) (cs++ds):=by
 refine⟨by simp[h.1,k.1],fun j x hj =>?_⟩
 rw[adY]at hj ⊢
 rw[<- h.1]
 split at hj
 ·rename_i hlt;rw[if_pos hlt];exact h.2 j x hj
 ·rename_i hlt;rw[if_neg hlt];exact k.2 _ x hj
theorem Co {α:Type} (s:Nat):∀(ls:List (List α)),(∀l∈ls,l.length=s)->∀(i:Nat) (l:List α),ls[i]? = some l->(ls.flatten.drop (i*s)).take s=l
 | [],_,i,l,h=>by simp at h
 | a::ls,hl,0,l,h=>by
  simp only[List.getElem?_cons_zero,adq]at h
  subst h
  have:a.length=s:=hl a (by simp)
  simp[this]
 | a::ls,hl,i+1,l,h=>by
  have ha:a.length=s:=hl a (by simp)
  rw[List.flatten_cons,aeY,aeZ (by rw[ha,aed];omega),aeW,ha,aed,ae0]
  exact Co s ls (fun x hx=>hl x (aeI _ hx)) i l h
theorem K6 {α:Type} (s:Nat):∀(ls:List (List α)),(∀l∈ls,l.length=s)->ls.flatten.length=ls.length*s
 | [],_=>by simp
 | a::ls,hl=>by
  rw[List.flatten_cons,aej,K6 s ls (fun x hx=>hl x (aeI _ hx)),hl a (by simp),adH,aed]
  omega
section
variable {H:Type} {enc:TypeId×Value->H} {P:Program} {w:World} {base:Nat} {spare:Nat->Bool} {held:Bool} {T:Nat->Option Ty}
theorem fU.bytesOf {P:Program} {t:Nat} {τ:Ty} (h:fU P t τ):P.bytesOf t=τ.bytes:=by
 have:=h.info
 unfold Program.bytesOf
 cases hi:P.info? t with
 | none=>rw[hi]at this;simp at this
 | some i=>rw[hi]at this;simp only[Option.map_some,adq,Prod.mk.injEq]at this;simp[this.2.1]
def Reach (P:Program) (t:Nat) (d:DataW H):Prop:=∀k∈d.weights P t,k<=140737488351232
theorem y8 {e:TypeId} : ∀(l:List (DataW H)) (j:Nat) (d:DataW H),l[j]? = some d->∀k∈d.weights P e,k∈DataW.weightsAll P e l
 | x::l,0,d,h,k,hk=>by
  simp only[List.getElem?_cons_zero,adq]at h
  subst h
  simp only[DataW.weightsAll,aep]
  exact .inl hk
 | x::l,j+1,d,h,k,hk=>by
  simp only[DataW.weightsAll,aep]
  exact .inr (y8 l j d (by simpa using h) k hk)
 | [],j,d,h,k,hk=>by simp at h
theorem fU.cells {P:Program} {t:Nat} {τ:Ty} (h:fU P t τ):P.cellsOf t=τ.size:=by
 have:=h.info
 unfold Program.cellsOf
 cases hi:P.info? t with
 | none=>rw[hi]at this;simp at this
 | some i=>rw[hi]at this;simp only[Option.map_some,adq,Prod.mk.injEq]at this;simp[this.1]
theorem R2 {T:Nat->Option Ty} {w:World} {M:Nat->Prop} {cs:List Value} : ∀(fs:List (Nat×Nat)) (o z:Nat) (f:Nat×Nat->List D),zX T o fs z=true->cs.length=z ->
  (∀p∈fs,∃φ,T p.1=some φ∧lZ w M (f p) ((cs.drop p.2).take φ.size))->o<=z->∃xs,lZ w M xs (cs.drop o)∧∀p∈fs,∃φ,T p.1=some φ∧o<=p.2∧(xs.drop (p.2-o)).take φ.size=f p
 | [],o,z,f,hl,hc,_,_=>by
  simp only[zX,beq_iff_eq]at hl
  refine⟨[],⟨by rw[adB,hc,hl];simp,fun j x hj=>by simp at hj⟩,fun p hp=>by simp at hp⟩
 | (ft,off)::fs,o,z,f,hl,hc,hp,hoz=>by
  simp only[zX,adS,beq_iff_eq]at hl
  obtain⟨rfl,hl⟩:=hl
  obtain⟨φ,hφ,hR⟩:=hp (ft,off) (by simp)
  simp only[hφ]at hl
  have hz:off+φ.size<=z:=by
   have:∀(fs:List (Nat×Nat)) (o:Nat),zX T o fs z=true->o<=z:=by
    intro fs
    induction fs with
    | nil=>intro o h;simp only[zX,beq_iff_eq]at h;omega
    | cons p fs ih =>
     intro o h
     obtain⟨a,b⟩:=p
     simp only[zX,adS]at h
     have h2:=h.2
     split at h2
     ·have:=ih _ h2;omega
     ·cases h2
   exact this fs _ hl
  obtain⟨xs,hx,hxs⟩:=R2 fs (off+φ.size) z f hl hc (fun p h=>hp p (aeI _ h)) hz
  have hfl:(f (ft,off)).length=φ.size:=by
   rw[hR.1,adA,adB,hc];omega
  refine⟨f (ft,off)++xs,?_,fun p h =>?_⟩
  ·have:=hR.append hx
   rw[<- ae1,ae2]at this
   exact this
  ·rcases ado.1 h with rfl|h
   ·exact⟨φ,hφ,adh _,by simp only[ael,aeB];rw[aez (by omega),aeA (by omega)]⟩
   ·obtain⟨ψ,h1,h2,h3⟩:=hxs p h
    refine⟨ψ,h1,by omega,?_⟩
    rw[aeY,aeZ (by omega),aeW,hfl]
    have:p.2-off-φ.size=p.2-(off+φ.size):=by omega
    rw[this,h3]
theorem lZ.one {w:World} {M:Nat->Prop} {x:D} {v:Value} (hp:aV x=true) (h:RP w M x v):lZ w M [x] [v]:=by
 refine⟨rfl,fun j y hj =>?_⟩
 match j,hj with
 | 0,hj=>simp only[List.getElem?_cons_zero,adq]at hj;subst hj;exact⟨hp,v,rfl,h⟩
 | j+1,hj=>simp at hj
theorem lZ.flat {w:World} {M:Nat->Prop} {cs:List Value} {s:Nat} : ∀(ls:List (List D)) (o:Nat),(∀(i:Nat) l,ls[i]? = some l->lZ w M l ((cs.drop (o+i*s)).take s))->(∀l∈ls,l.length=s)->lZ w M ls.flatten ((cs.drop o).take (ls.length*s))
 | [],o,_,_=>⟨by simp,fun j x hj=>by simp at hj⟩
 | a::ls,o,h,hl=>by
  have h0:=h 0 a rfl
  have h1:=lZ.flat ls (o+s) (fun i l hi=>by
   have:=h (i+1) l (by simpa using hi)
   rw[aed]at this
   rw[show o+s+i*s=o+(i*s+s) by omega]
   exact this) (fun l hx=>hl l (aeI _ hx))
  have:=h0.append h1
  rw[ae3,adQ]at this
  rw[List.flatten_cons,adH,aed,Nat.add_comm (ls.length*s) s,List.take_add,ae1]
  exact this
theorem ZY (hT:js P T) {M:Nat->Prop} (hM:∀b,base<=b->b<w.heap.size->¬M b):∀(n t fuel:Nat) (cs:List Value) (x:DataW H×List MemPlace),T9 T n t=true->DataW.trod enc P w base spare held fuel t cs=some x->Reach P t x.1->∃xs,Bh T n t xs∧lZ w M xs cs:=by
 intro n
 induction n with
 | zero=>intro t fuel cs x h;cases h
 | succ n ih =>
  intro t fuel cs x hok h hw
  unfold T9 at hok
  unfold Bh
  cases hτ:T t with
  | none=>rw[hτ]at hok;cases hok
  | some τ =>
   rw[hτ]at hok
   simp only at hok ⊢
   obtain⟨d,hd,hc⟩:=under hT hτ
   cases hds:τ.ds with
   | int k =>
    rw[hds]at hok hc
    simp only[beq_iff_eq]at hok
    have hd':=xi hc
    subst hd'
    obtain⟨i,rfl,_,hw⟩:=DataW.trod_int hd h
    exact⟨[.int k i],⟨by rw[hok];rfl,i,rfl,hw⟩,.one rfl (.int k i)⟩
   | bool =>
    rw[hds]at hok hc
    simp only[beq_iff_eq]at hok
    have hd':=uC hc
    subst hd'
    obtain⟨b,rfl,_⟩:=DataW.trod_bool hd h
    exact⟨[.bool b],⟨by rw[hok];rfl,b,rfl⟩,.one rfl (.bool b)⟩
   | str =>
    rw[hds]at hok hc
    simp only[beq_iff_eq]at hok
    have hd':=qf hc
    subst hd'
    obtain⟨s,rfl,rfl,hs⟩:=DataW.trod_string hd h
    have hs':s.size<=140737488351232:=by
     have:=hw s.data.toList.length (by simp[DataW.weights])
     simpa using this
    exact⟨[.str s],⟨by rw[hok];rfl,s,rfl,hs'⟩,.one rfl (.str s)⟩
   | map _ _=>rw[hds]at hok;cases hok
   | other=>rw[hds]at hok;cases hok
   | struct fs =>
    rw[hds]at hok hc
    simp only[adS,ads]at hok
    obtain⟨F,rfl,hF⟩:=g9 hc
    obtain⟨ys,m,_,rfl,hlen,hyl,hf⟩:=DataW.trod_struct hd h
    have hwy:∀(i:Nat) (f:Field) y,F[i]? = some f->ys[i]? = some y->Reach P f.type y.1:=by
     intro i f y hfi hyi k hk
     refine hw k ?_
     simp only[DataW.weights,hd]
     exact DataW.weights_mem_each (j:=i) (t:=f.type) (d:=y.1) (by rw[ade,ad7,hfi];rfl) (by simp[hyi]) k hk
    rw[(hT t τ hτ).cells]at hlen
    have hone:∀p:Nat×Nat,∃zs,p∈fs->∃φ,T p.1=some φ∧Bh T n p.1 zs∧lZ w M zs ((cs.drop p.2).take φ.size):=by
     intro p
     by_cases hp:p∈fs
     ·have hokp:=hok.2 p hp
      rw[<- hF]at hp
      obtain⟨f,hfm,rfl⟩:=adg.1 hp
      obtain⟨i,hi⟩:=List.mem_iff_getElem?.1 hfm
      have h1:=hf i f (by simpa using hi)
      simp only at hokp ⊢
      cases hφ:T f.type with
      | none=>cases n with
       | zero=>cases hokp
       | succ n=>simp only[T9,hφ]at hokp;cases hokp
      | some φ =>
       rw[(hT _ φ hφ).cells]at h1
       have hi':i<ys.length:=by
        have:=(adK.1 hi).1
        simp only[Array.length_toList]at this
        omega
       rw[adu hi']at h1
       obtain⟨zs,hz1,hz2⟩:=ih _ _ _ _ hokp h1 (hwy i f _ (by simpa using hi) (adu hi'))
       exact⟨zs,fun _=>⟨φ,rfl,hz1,hz2⟩⟩
     ·exact⟨[],fun h=>(hp h).elim⟩
    obtain⟨f,hf2⟩:=Classical.axiomOfChoice hone
    obtain⟨xs,hx,hparts⟩:=R2 fs 0 τ.size f hok.1 hlen (fun p hp=>by obtain⟨φ,a,_,b⟩:=hf2 p hp;exact⟨φ,a,b⟩) (adi _)
    rw[aeB]at hx
    refine⟨xs,⟨by rw[hx.1,hlen],fun p hp =>?_⟩,hx⟩
    obtain⟨φ,h1,_,h3⟩:=hparts p hp
    obtain⟨ψ,g1,g2,_⟩:=hf2 p hp
    rw[h1]at g1
    cases g1
    rw[Nat.sub_zero]at h3
    exact⟨φ,h1,by rw[h3];exact g2⟩
   | arr m e =>
    rw[hds]at hok hc
    simp only[adS]at hok
    have hd':=xh hc
    subst hd'
    obtain⟨ys,k,_,rfl,hlen,hyl,hf⟩:=DataW.trod_array hd h
    have hwy:∀(i:Nat) y,ys[i]? = some y->Reach P e y.1:=by
     intro i y hyi k hk
     refine hw k ?_
     simp only[DataW.weights,hd]
     exact y8 _ i y.1 (by simp[hyi]) k hk
    rw[(hT t τ hτ).cells]at hlen
    obtain⟨hok1,hok2⟩:=hok
    split at hok2
    ·rename_i φ hφ
     simp only[beq_iff_eq]at hok2
     have hone:∀i:Nat,∃zs,i<m->Bh T n e zs∧lZ w M zs ((cs.drop (i*φ.size)).take φ.size):=by
      intro i
      by_cases hi:i<m
      ·have h1:=hf i hi
       rw[(hT _ φ hφ).cells,adu (by omega)]at h1
       obtain⟨zs,hz1,hz2⟩:=ih _ _ _ _ hok1 h1 (hwy i _ (adu (by omega)))
       exact⟨zs,fun _=>⟨hz1,hz2⟩⟩
      ·exact⟨[],fun h=>(hi h).elim⟩
     obtain⟨f,hf2⟩:=Classical.axiomOfChoice hone
     have hls:∀l∈(List.range m).map f,l.length=φ.size:=by
      intro l hl
      obtain⟨i,hi,rfl⟩:=adg.1 hl
      have hi:=aeS.1 hi
      rw[(hf2 i hi).2.1,adA,adB,hlen,hok2]
      have:(i+1)*φ.size<=m*φ.size:=ad3 _ hi
      rw[aed]at this
      omega
     have hget:∀(i:Nat) l,((List.range m).map f)[i]? = some l->i<m∧l=f i:=by
      intro i l hl
      rw[ade,adf]at hl
      obtain⟨j,hj,rfl⟩:=hl
      obtain⟨hj1,hj2⟩:=adK.1 hj
      simp only[adM]at hj1
      simp only[adN]at hj2
      exact⟨hj1,by rw[hj2]⟩
     have hall:lZ w M ((List.range m).map f).flatten ((cs.drop 0).take (((List.range m).map f).length*φ.size)):=by
      refine lZ.flat _ 0 (fun i l hl =>?_) hls
      obtain⟨hi,rfl⟩:=hget i l hl
      rw[ad4]
      exact (hf2 i hi).2
     rw[adL,adM,aeB,aeA (by omega)]at hall
     refine⟨_,⟨by rw[hall.1,hlen],φ,hφ,fun i hi =>?_⟩,hall⟩
     have hi':((List.range m).map f)[i]? = some (f i):=by simp[hi]
     rw[Co φ.size _ hls i _ hi']
     exact (hf2 i hi).1
    ·cases hok2
   | slice e =>
    rw[hds]at hok hc
    simp only[adS,beq_iff_eq]at hok
    have hd':=eV hc
    subst hd'
    obtain⟨⟨hone,hoke⟩,hpos⟩:=hok
    split at hpos
    ·rename_i φ hφ
     simp only[decide_eq_true_eq]at hpos
     rcases open_slice hd h with⟨rfl,_⟩|⟨a,len,cap,m,k,D',Pl,rfl,hb,hl,hm,hmm,rfl,hi⟩
     ·refine⟨[.sl false false 0 []],⟨by rw[hone];rfl,0,[],φ,rfl,by omega,hφ,by simp,fun i hi=>by omega⟩,.one rfl ?_⟩
      exact .sl none 0 false false 0 [] (fun _=>undef) (adh _) (adi _) (fun h=>by cases h) (fun _=>⟨rfl,rfl⟩) (fun h=>by cases h) (fun h=>(h rfl).elim) (fun j x hj=>by simp at hj) (fun x hx=>by simp at hx)
     ·have hlm:len<=m:=by rw[hmm];split<;>omega
      have hwl:len*φ.bytes<=140737488351232:=by
       have h1:=hw ((((List.range len).map D').length+((List.range (m-len)).map fun j=>D' (len+j)).length)*P.bytesOf e) (by simp[DataW.weights,hd])
       rw[(hT _ φ hφ).bytesOf]at h1
       simp only[adL,adM]at h1
       exact adj (ad3 _ (by omega)) h1
      have hwy:∀i,i<len->Reach P e (D' i):=by
       intro i hi' k hk
       refine hw k ?_
       simp only[DataW.weights,hd,ado,aep]
       exact .inr (.inl (y8 _ i (D' i) (by simp[hi']) k hk))
      have hone':∀i:Nat,∃zs,i<len->Bh T n e zs∧zs.length=φ.size∧∀(j:Nat) z,zs[j]? = some z->aV z=true∧∃v,w.cell? (a.add (i*φ.size+j))=some v∧RP w M z v:=by
       intro i
       by_cases hil:i<len
       ·obtain⟨cs',hc1,hc2⟩:=hi i (by omega)
        rw[(hT _ φ hφ).cells]at hc1
        obtain⟨_,g1,g2⟩:=World.cells?_some hc1
        obtain⟨zs,hz1,hz2⟩:=ih _ _ _ _ hoke hc2 (hwy i hil)
        refine⟨zs,fun _=>⟨hz1,by rw[hz2.1,g1],fun j z hj =>?_⟩⟩
        obtain⟨p1,v,p2,p3⟩:=hz2.2 j z hj
        refine⟨p1,v,?_,p3⟩
        have hj':j<φ.size:=by rw[<- g1];exact (adK.1 p2).1
        rw[<- Go.Deep.add_add,g2 j hj',p2]
       ·exact⟨[],fun h=>(hil h).elim⟩
      obtain⟨f,hf2⟩:=Classical.axiomOfChoice hone'
      have hls:∀l∈(List.range len).map f,l.length=φ.size:=by
       intro l hl
       obtain⟨i,hi,rfl⟩:=adg.1 hl
       exact (hf2 i (aeS.1 hi)).2.1
      have hfl:((List.range len).map f).flatten.length=len*φ.size:=by rw[K6 φ.size _ hls];simp
      have hseg:∀i,i<len->(((List.range len).map f).flatten.drop (i*φ.size)).take φ.size=f i:=fun i hi=>Co φ.size _ hls i (f i) (by simp[hi])
      have hat:∀(p:Nat) z,((List.range len).map f).flatten[p]? = some z->aV z=true∧∃v,w.cell? (a.add p)=some v∧RP w M z v:=by
       intro p z hp
       have hpl:=(adK.1 hp).1
       rw[hfl]at hpl
       have hq:p / φ.size<len:=Nat.div_lt_of_lt_mul (by rwa [aee])
       have hr:p % φ.size<φ.size:=aea _ hpos
       have he:p / φ.size*φ.size+p % φ.size=p:=Nat.div_add_mod' p φ.size
       have hz:(f (p / φ.size))[p % φ.size]? = some z:=by
        rw[<- hseg _ hq,adx,if_pos hr,ady,he]
        exact hp
       have:=(hf2 _ hq).2.2 _ z hz
       rw[he]at this
       exact this
      refine⟨[.sl false false len ((List.range len).map f).flatten],⟨by rw[hone];rfl,len,_,φ,rfl,hwl,hφ,hfl,fun i hi=>by rw[hseg i hi];exact (hf2 i hi).1⟩,.one rfl ?_⟩
      refine .sl (some a) cap false false len _ (fun j=>(w.cell? (a.add j)).getD undef) hl hm (fun h=>by cases h) (fun h=>by cases h) (fun h=>by cases h) (fun hne =>?_) (fun j z hj =>?_) (fun z hz =>?_)
      ·have h0:0<((List.range len).map f).flatten.length:=ae4.2 hne
       obtain⟨_,v,hv,_⟩:=hat 0 _ (adu h0)
       obtain⟨b,o,sp⟩:=a
       have hsp:sp=none:=by
        unfold World.cell? at hv
        split at hv
        ·split at hv
         ·cases hv
         ·rename_i h;simpa [Addr.add] using h
        ·cases hv
       subst hsp
       have hbs:b<w.heap.size:=by
        unfold World.cell? at hv
        split at hv
        ·rename_i hh;exact (adl.1 hh).1
        ·cases hv
       refine⟨b,o,rfl,hbs,hM b hb hbs,fun j hj =>?_⟩
       obtain⟨_,v,hv,_⟩:=hat j _ (adu hj)
       have ha:Addr.add ⟨b,o,none⟩ j=⟨b,o+j,none⟩:=by
        unfold Addr.add
        split
        ·rename_i h0;rw[h0];rfl
        ·rfl
       have hv':w.cell? ⟨b,o+j,none⟩=some v:=by rw[<- ha];exact hv
       rw[hv']
       simp only[hv,Option.getD_some]
      ·obtain⟨_,v,hv,hr⟩:=hat j z hj
       rw[hv]
       exact hr
      ·obtain⟨j,hj⟩:=List.mem_iff_getElem?.1 hz
       exact (hat j z hj).1
    ·cases hpos
def qC (T:Nat->Option Ty) (n t:Nat) (d:D):Prop :=
 match T t with
 | some τ=>if τ.ds.nV then ∃xs,d=.agg xs∧Bh T n t xs else Bh T n t [d]
 | none=>False
theorem lZ.agg {w:World} {M:Nat->Prop} {xs:List D} {cs:Array Value} (h:lZ w M xs cs.toList):RP w M (.agg xs) (.agg cs):=by
 have:=RP.agg (w:=w) (M:=M) xs cs.toList h.1.symm (fun j x hj=>by
  obtain⟨_,v,h1,h2⟩:=h.2 j x hj
  simp only[List.getD,h1,Option.getD_some]
  exact h2) (fun x hx=>by
  obtain⟨j,hj⟩:=List.mem_iff_getElem?.1 hx
  exact (h.2 j x hj).1)
 simpa using this
theorem lZ.single {w:World} {M:Nat->Prop} {xs:List D} {v:Value} (h:lZ w M xs [v]):∃x,xs=[x]∧RP w M x v:=by
 match xs,h with
 | [],h=>have:=h.1;simp at this
 | [x],h=>obtain⟨_,u,h1,h2⟩:=h.2 0 x rfl;simp only[List.getElem?_cons_zero,adq]at h1;subst h1;exact⟨x,rfl,h2⟩
 | x::y::xs,h=>have:=h.1;simp at this
theorem XY (hT:js P T) {M:Nat->Prop} (hM:∀b,base<=b->b<w.heap.size->¬M b) {n t b0:Nat} {v:Value} {d:DataW H} {ps:List MemPlace} (hok:T9 T n t=true) (hv:Value.okWide P w .any b0 t v) (h:DataW.Trod enc P w base spare held t v d ps) (hw:Reach P t d) :
  ∃x,qC T n t x∧RP w M x v:=by
 obtain⟨fuel,h⟩:=h
 obtain⟨xs,h1,h2⟩:=ZY hT hM n t fuel _ _ hok h hw
 unfold qC
 cases n with
 | zero=>cases hok
 | succ n =>
 cases hτ:T t with
 | none=>simp only[T9,hτ]at hok;cases hok
 | some τ =>
  simp only
  obtain⟨d',hd,hc⟩:=under hT hτ
  cases hds:τ.ds with
  | int k =>
   rw[hds]at hc
   have hd':=xi hc
   subst hd'
   obtain⟨i,rfl⟩:=okWide_int hd hv
   obtain⟨x,rfl,hx⟩:=lZ.single (v := .int k i) h2
   exact⟨x,by simpa [Ds.nV] using h1,hx⟩
  | bool =>
   rw[hds]at hc
   have hd':=uC hc
   subst hd'
   obtain⟨i,rfl⟩:=okWide_bool hd hv
   obtain⟨x,rfl,hx⟩:=lZ.single (v := .bool i) h2
   exact⟨x,by simpa [Ds.nV] using h1,hx⟩
  | str =>
   rw[hds]at hc
   have hd':=qf hc
   subst hd'
   obtain⟨i,rfl⟩:=okWide_string hd hv
   obtain⟨x,rfl,hx⟩:=lZ.single (v := .string i) h2
   exact⟨x,by simpa [Ds.nV] using h1,hx⟩
  | slice e =>
   rw[hds]at hc
   have hd':=eV hc
   subst hd'
   obtain⟨a,len,cap,rfl⟩:=okWide_slice hd hv
   obtain⟨x,rfl,hx⟩:=lZ.single (v := .slice a len cap) h2
   exact⟨x,by simpa [Ds.nV] using h1,hx⟩
  | struct fs =>
   rw[hds]at hc
   obtain⟨F,rfl,_⟩:=g9 hc
   obtain⟨cs,rfl,_⟩:=okWide_struct hd hv
   exact⟨.agg xs,by simpa [Ds.nV] using h1,lZ.agg h2⟩
  | arr m e =>
   rw[hds]at hc
   have hd':=xh hc
   subst hd'
   have:∃cs,v=.agg cs:=by
    unfold Value.okWide at hv
    rw[hd]at hv
    obtain⟨cs,h,_⟩:=hv
    exact⟨cs,h⟩
   obtain⟨cs,rfl⟩:=this
   exact⟨.agg xs,by simpa [Ds.nV] using h1,lZ.agg h2⟩
  | map _ _=>simp only[T9,hτ,hds]at hok;cases hok
  | other=>simp only[T9,hτ,hds]at hok;cases hok
theorem E5 (hT:js P T) {M:Nat->Prop} (hM:∀b,base<=b->b<w.heap.size->¬M b) {n b0:Nat} : ∀(ts:List TypeId) (vs:List Value) (ds:List (DataW H)) (ps:List MemPlace),DataW.TrodAll enc P w base spare held ts vs ds ps ->
  (∀(j:Nat) t v,ts[j]? = some t->vs[j]? = some v->Value.okWide P w .any b0 t v)->(∀t∈ts,T9 T n t=true)->(∀k∈DataW.weightsEach P ts ds,k<=140737488351232) ->
  ∃ar:List D,ar.length=vs.length∧(∀(j:Nat) x,ar[j]? = some x->∃v,vs[j]? = some v∧RP w M x v)∧ar.length=ts.length∧∀(j:Nat) t,ts[j]? = some t->∃x,ar[j]? = some x∧qC T n t x
 | [],[],[],ps,_,_,_,_=>⟨[],rfl,fun j x hj=>by simp at hj,rfl,fun j t hj=>by simp at hj⟩
 | t::ts,v::vs,d::ds,ps,h,hv,hok,hw=>by
  obtain⟨p,q,h1,h2,_⟩:=h
  obtain⟨x,hx1,hx2⟩:=XY hT hM (hok t (by simp)) (hv 0 t v rfl rfl) h1 (fun k hk=>hw k (by simp only[DataW.weightsEach,aep];exact .inl hk))
  obtain⟨ar,g1,g2,g3,g4⟩:=E5 hT hM ts vs ds q h2 (fun j t' v' a b=>hv (j+1) t' v' (by simpa using a) (by simpa using b)) (fun t' ht=>hok t' (aeI _ ht)) (fun k hk=>hw k (by simp only[DataW.weightsEach,aep];exact .inr hk))
  refine⟨x::ar,by simp[g1],fun j y hj =>?_,by simp[g3],fun j t' hj =>?_⟩
  ·cases j with
   | zero=>simp only[List.getElem?_cons_zero,adq]at hj;subst hj;exact⟨v,rfl,hx2⟩
   | succ j=>simpa using g2 j y (by simpa using hj)
  ·cases j with
   | zero=>simp only[List.getElem?_cons_zero,adq]at hj;subst hj;exact⟨x,rfl,hx1⟩
   | succ j=>simpa using g4 j t' (by simpa using hj)
 | [],[],_::_,_,h,_,_,_=>h.elim
 | [],_::_,_,_,h,_,_,_=>h.elim
 | _::_,[],_,_,h,_,_,_=>h.elim
 | _::_,_::_,[],_,h,_,_,_=>h.elim
end
end Go.Proofs.Ytchndpjlijbplaa.Am
namespace Go.Proofs.Ytchndpjlijbplaa.Am
open Go.RowKit Go.Deep Go.ChangeShapes Go.WideShapes Go.ChangeAt
set_option linter.unusedSimpArgs false
set_option linter.unusedVariables false
section
variable {H:Type} {enc:TypeId×Value->H} {P:Program}
theorem EC {f:Func} {s:ChangeSpec} {apart fresh handsOn again:Bool} {W W':World} {args:Array Value} {v:Value} {ds gs:List (DataW H)} {before pa pv:List MemPlace}
  (hW:DataW.Whole enc P f.params.toList s.vars apart W args.toList ds gs before)
  (hres:∀(b:Nat) (sp:Nat->Bool) (hd:Bool),DataW.TrodAll enc P W' b sp hd f.resultTypes.toList (v.resultList f.resultTypes.size) (s.fn H (ds++gs)).results [])
  (hargs:∀sp:Nat->Bool,(∀p∈before,sp p.block=true)->DataW.TrodAll enc P W' 0 sp true f.params.toList args.toList (s.fn H (ds++gs)).args pa)
  (hvars:∀sp:Nat->Bool,(∀p∈before,sp p.block=true)->DataW.TrodVars enc P W' sp s.vars (s.fn H (ds++gs)).vars pv)
  (hps:before=pa++pv) (hb:Below W.heap.size W W')
  (hok:∀(j:Nat) (t:TypeId) (r:Value),f.resultTypes[j]? = some t->(v.resultList f.resultTypes.size)[j]? = some r->Value.okWide P W' .any 0 t r) :
  s.post enc P f apart fresh handsOn again W args v W':=by
 have hlt:∀p∈before,p.block<W.heap.size:=fun p hp=>hW.lt p hp
 have hold:∀p∈before,(fun b=>decide (b<W.heap.size)) p.block=true:=fun p hp=>by simpa using hlt p hp
 refine⟨ds,gs,before,[],pa,pv,hW,hres _ _ _,hargs _ hold,hvars _ hold,World.keptBut_mono (fun p hp=>⟨hp,?_⟩) (hb.frame (·∈before)),fun _ =>?_⟩
 ·rw[hps,aep]at hp
  exact Or.inr hp
 ·obtain⟨_,_,_,_,_,hz,hn⟩:=hW
  refine⟨hok,_,_,([]++pa)++pv,⟨[]++pa,pv,trodAll_append (hargs _ (fun _ _=>rfl)) (hres _ _ _),hvars _ (fun _ _=>rfl),rfl,?_,?_⟩,?_⟩
  ·intro b off hp
   have hin:MemPlace.cell b off∈before:=by rw[hps];simpa using hp
   rw[hb.frozen (hlt _ hin)]
   exact hz b off hin
  ·intro ha
   have:=hn ha
   rw[hps]at this
   simpa using this
  ·intro p hp _
   rw[hps]
   simpa using hp
theorem wc (hl:laidOutB P=true) {W W':World} {sp':Nat->Bool} : ∀ {ts:List TypeId} {vs:List Value} {ds:List (DataW H)} {ps:List MemPlace},(∀t∈ts,P.readableRec t=true∧t<P.types.size)->DataW.TrodAll enc P W 0 (fun _=>true) true ts vs ds ps ->
  (∀p∈ps,W.sameAt W' p)->(∀p∈ps,sp' p.block=true)->DataW.TrodAll enc P W' 0 sp' true ts vs ds ps
 | [],[],[],_,_,h,_,_=>h
 | t::ts,v::vs,d::ds,_,hr,⟨p,q,h1,h2,e⟩,hs,hp=>by
  subst e
  have ht:=hr t (by simp)
  exact⟨p,q,WideElems.Trod_stays hl ht.1 ht.2 h1 (fun x hx=>hs x (adv _ hx)) (fun x hx=>hp x (adv _ hx)),
   wc hl (fun t ht=>hr t (aeI _ ht)) h2 (fun x hx=>hs x (adw _ hx)) (fun x hx=>hp x (adw _ hx)),rfl⟩
end
theorem WH {H:Type} {enc:TypeId×Value->H} {C:Checked} {T:Nat->Option Ty} {f:FuncId} {fn:Func} {s:ChangeSpec} {apart fresh handsOn again:Bool} {tb n:Nat} (hT:js C.prog T)
  (hl:laidOutB C.prog=true) (hr:(fn.params.toList.all fun t=>C.prog.readableRec t&&decide (t<C.prog.types.size)&&T9 T n t)=true)
  (hres:fn.resultTypes = #[tb]) (htb:C.prog.underlying tb=some .bool) (hv:s.vars=[])
  (hs:∀ds:List (DataW H),ds.length=fn.params.toList.length->(s.fn H ds).results=[.lit (.bool true)]∧(s.fn H ds).args=ds∧(s.fn H ds).vars=[])
  (law:∀ar:List D,ar.length=fn.params.toList.length->(∀(j:Nat) t,fn.params.toList[j]? = some t->∃x,ar[j]? = some x∧qC T n t x)->Ol C.prog f ar (.bool true))
  {W:World} {base:Nat} {args:Array Value} {ds gs:List (DataW H)} {before:List MemPlace}
  (hval:∀(j:Nat) t v,fn.params[j]? = some t->args[j]? = some v->Value.okWide C.prog W .any base t v) (hW:DataW.Whole enc C.prog fn.params.toList s.vars apart W args.toList ds gs before)
  (hsz:(DataW.weightsEach C.prog (fn.params.toList++s.plain.varTypes C.prog) (ds++gs)).all (·<=reachBytes)=true) (hTab:S7 W (fun _=>False)) :
  Calls C.prog f args W fun e W'=>∃v,e=.returned v∧s.post enc C.prog fn apart fresh handsOn again W args v W':=by
 have hW':=hW
 obtain⟨p,q,hA,hV,rfl,hfz,hnd⟩:=hW
 rw[hv]at hV
 obtain⟨rfl,rfl⟩:=trodVars_none hV
 simp only[ads,adS,decide_eq_true_eq]at hr
 obtain⟨ar,h1,h2,h3,h4⟩:=E5 (P:=C.prog) hT (M:=fun _=>False) (fun b _ _ h=>h) (n:=n) (b0:=base) fn.params.toList args.toList ds p hA
  (fun j t v a b=>hval j t v (by simpa using a) (by simpa using b)) (fun t ht=>(hr t ht).2) (fun k hk=>by
   rw[ads]at hsz
   have hv0:s.plain.varTypes C.prog=[]:=by unfold ChangeSpec.plain;simp only[hv];rfl
   rw[hv0,ae5,ae5]at hsz
   have h:=hsz k hk
   rw[decide_eq_true_eq]at h
   exact h)
 refine (law ar h3 h4 W (fun _=>False) args (fun b h=>h.elim) ⟨by simpa using h1.symm,fun j x hj =>?_,hTab⟩).mono fun e W' hG =>?_
 ·obtain⟨v,g1,g2⟩:=h2 j x hj
  have g1':args[j]? = some v:=by simpa using g1
  rw[adm,g1']
  exact g2
 ·obtain⟨v,rfl,hb,hv1⟩:=hG
  have hv2:RP W' (fun _=>False) (.bool true) v:=hv1
  cases hv2
  have hlen:ds.length=fn.params.toList.length:=by
   have:∀ {ts:List TypeId} {vs:List Value} {ds:List (DataW H)} {ps:List MemPlace},DataW.TrodAll enc C.prog W 0 (fun _=>true) true ts vs ds ps->ds.length=ts.length:=by
    intro ts
    induction ts with
    | nil=>intro vs ds ps h;cases vs<;>cases ds<;>first|rfl|exact h.elim
    | cons t ts ih =>
     intro vs ds ps h
     cases vs with
     | nil=>exact h.elim
     | cons v vs=>cases ds with
      | nil=>exact h.elim
      | cons d ds=>obtain⟨_,_,_,h2,_⟩:=h;simp[ih h2]
   exact this hA
  obtain⟨e1,e2,e3⟩:=hs ds hlen
  refine⟨_,rfl,EC (pa:=p) (pv:=[]) hW' ?_ ?_ ?_ (by simp) hb ?_⟩
  ·intro b sp hd
   rw[ae5,e1,hres]
   exact trodAll_mk1 ⟨1,by simp[DataW.trod,htb,Value.cells]⟩
  ·intro sp hsp
   rw[ae5,e2]
   refine wc hl (fun t ht=>(hr t ht).1) hA (fun x hx=>hb.same (hW'.lt x (by simpa using hx))) (fun x hx=>hsp x (by simpa using hx))
  ·intro sp _
   rw[ae5,e3,hv]
   rfl
  ·exact ok_one hres rfl (by simp[Value.okWide,htb,Cell.okWide,Cell.ok])
theorem P9 {H:Type} {enc:TypeId×Value->H} {C:Checked} {os:Os} {T:Nat->Option Ty} {f:FuncId} {fn:Func} {s:ChangeSpec} {conds:List PathCond} {apart fresh handsOn again:Bool} {tb n:Nat}
  (hT:js C.prog T) (own:ownKnob C.prog.godebug=none) (started:os.Started) (noInit:C.prog.inits.idxOf? f=none) (hfn:C.prog.funcs[f]? = some fn)
  (witness:∃(w:World) (tape:Tape) (i:Input),w.os=os∧(w.forCall tape i).Shaped C.prog∧i.vars=[]∧Input.okWide C.prog (w.forCall tape i) .any w.heap.size f i ∧
   s.pre6 enc C.prog fn conds apart (w.forCall tape i).memory i.args∧({} : Assume).holds C.prog (lone (Frame.enter C.prog f i.args .normal) [] (w.forCall tape i)))
  (hl:laidOutB C.prog=true) (hr:(fn.params.toList.all fun t=>C.prog.readableRec t&&decide (t<C.prog.types.size)&&T9 T n t)=true)
  (hres:fn.resultTypes = #[tb]) (htb:C.prog.underlying tb=some .bool) (hv:s.vars=[])
  (hs:∀ds:List (DataW H),ds.length=fn.params.toList.length->(s.fn H ds).results=[.lit (.bool true)]∧(s.fn H ds).args=ds∧(s.fn H ds).vars=[])
  (law:∀ar:List D,ar.length=fn.params.toList.length->(∀(j:Nat) t,fn.params.toList[j]? = some t->∃x,ar[j]? = some x∧qC T n t x)->Ol C.prog f ar (.bool true)) (hno:W6=none:=by rfl) :
  ReturnsInHanded {} C os f .any (s.pre6 enc C.prog fn conds apart) (s.post enc C.prog fn apart fresh handsOn again):=by
 refine returnsInHanded_of_change_sized own started noInit hfn witness ?_
 intro W base args ds gs before hval hW _ hsz _
 exact WH hT hl hr hres htb hv hs law hval hW hsz (fun b hb=>by rw[hno]at hb;cases hb)
end Go.Proofs.Ytchndpjlijbplaa.Am
namespace Go.Proofs.Ytchndpjlijbplaa.Am
open Go.RowKit
set_option linter.unusedSimpArgs false
set_option linter.unusedVariables false
theorem aaU {T:Nat->Option Ty} {n t:Nat} {ar:List D} (h:ar.length=[t].length) (hs:∀(j:Nat) u,[t][j]? = some u->∃x,ar[j]? = some x∧qC T n u x):∃a,ar=[a]∧qC T n t a:=by
 match ar,h with
 | [a],_=>obtain⟨x,h1,h2⟩:=hs 0 t rfl;cases h1;exact⟨a,rfl,h2⟩
theorem aaV {T:Nat->Option Ty} {n t:Nat} {ts:List Nat} {ar:List D} (h:ar.length=(t::ts).length) (hs:∀(j:Nat) u,(t::ts)[j]? = some u->∃x,ar[j]? = some x∧qC T n u x) :
  ∃a ada,ar=a::ada∧qC T n t a∧ada.length=ts.length∧∀(j:Nat) u,ts[j]? = some u->∃x,ada[j]? = some x∧qC T n u x:=by
 match ar,h with
 | a::ada,h =>
  obtain⟨x,h1,h2⟩:=hs 0 t rfl
  cases h1
  exact⟨a,ada,rfl,h2,by simpa using h,fun j u hu=>by simpa using hs (j+1) u (by simpa using hu)⟩
section
variable {T:Nat->Option Ty} {n t:Nat} {τ:Ty} {d:D}
theorem XU {k:IntKind} (h:qC T (n+1) t d) (hτ:T t=some τ) (hd:τ.ds=.int k):∃i,d=.int k i∧(Lit.int k i).wf=true:=by
 simp only[qC,hτ,hd,Ds.nV,adR,if_false,Bh]at h
 obtain⟨_,i,hi,hw⟩:=h
 cases hi
 exact⟨i,rfl,hw⟩
theorem OG {fs:List (Nat×Nat)} (h:qC T n t d) (hτ:T t=some τ) (hd:τ.ds=.struct fs):∃xs,d=.agg xs∧Bh T n t xs:=by
 simp only[qC,hτ,hd,Ds.nV,if_true]at h
 exact h
theorem Ta {e:Nat} (h:qC T n t d) (hτ:T t=some τ) (hd:τ.ds=.slice e):Bh T n t [d]:=by
 simp only[qC,hτ,hd,Ds.nV,adR,if_false]at h
 exact h
theorem YK {k:IntKind} {xs:List D} (h:Bh T (n+1) t xs) (hτ:T t=some τ) (hd:τ.ds=.int k):∃i,xs=[.int k i]∧(Lit.int k i).wf=true:=by
 simp only[Bh,hτ,hd]at h
 exact h.2
theorem Um {e:Nat} {φ:Ty} {xs:List D} (h:Bh T (n+1) t xs) (hτ:T t=some τ) (hd:τ.ds=.slice e) (hφ:T e=some φ) :
  ∃len ys,xs=[.sl false false len ys]∧len*φ.bytes<=140737488351232∧ys.length=len*φ.size∧∀i,i<len->Bh T n e ((ys.drop (i*φ.size)).take φ.size):=by
 simp only[Bh,hτ,hd]at h
 obtain⟨_,len,ys,ψ,h1,h3,h4,h5,h6⟩:=h
 rw[hφ]at h4
 cases h4
 exact⟨len,ys,h1,h3,h5,h6⟩
theorem Qy {fs:List (Nat×Nat)} {xs:List D} (h:Bh T (n+1) t xs) (hτ:T t=some τ) (hd:τ.ds=.struct fs):xs.length=τ.size∧∀f∈fs,∃φ,T f.1=some φ∧Bh T n f.1 ((xs.drop f.2).take φ.size):=by
 simp only[Bh,hτ,hd]at h
 exact h
end
end Go.Proofs.Ytchndpjlijbplaa.Am
namespace Go.Proofs.Ytchndpjlijbplaa.Am
open Go.RowKit Go.Proofs.Ytchndpjlijbplaa.P
set_option linter.unusedSimpArgs false
set_option linter.unusedVariables false
def Oi {α:Type} (T:Nat->Option Ty) (n t:Nat) (E:ig α) (ok:α->Prop):Prop:=(∃φ,T t=some φ∧φ.size=E.size)∧∀xs,Bh T n t xs->∃x,xs=E.cells x∧ok x
section
variable {T:Nat->Option Ty} {n t:Nat} {τ:Ty}
theorem opI {k:IntKind} (hτ:T t=some τ) (hd:τ.ds=.int k) (hs:τ.size=1):Oi T (n+1) t (eI k) (fun i=>(Lit.int k i).wf=true):=⟨⟨τ,hτ,hs⟩,fun _ h=>YK h hτ hd⟩
theorem ZG {α:Type} (E:ig α) (ok:α->Prop):∀(len:Nat) (ys:List D),ys.length=len*E.size->(∀i,i<len->∃x,(ys.drop (i*E.size)).take E.size=E.cells x∧ok x)->∃l:List α,l.length=len∧ys=ae E l∧∀x∈l,ok x
 | 0,ys,hl,_=>⟨[],rfl,by simpa [ae] using hl,fun x hx=>by simp at hx⟩
 | len+1,ys,hl,h=>by
  obtain⟨x,hx,hok⟩:=h 0 (by omega)
  obtain⟨l,h1,h2,h3⟩:=ZG E ok len (ys.drop E.size) (by rw[adB,hl,aed];omega) (fun i hi=>by
   obtain⟨y,hy,hy2⟩:=h (i+1) (by omega)
   refine⟨y,?_,hy2⟩
   rw[ae1]
   rw[aed,Nat.add_comm]at hy
   exact hy)
  rw[ae3,aeB]at hx
  refine⟨x::l,by simp[h1],?_,fun y hy =>?_⟩
  ·rw[aJ,<- h2,<- hx,ae2]
  ·rcases ado.1 hy with rfl|hy
   ·exact hok
   ·exact h3 y hy
theorem aaq {α:Type} {E:ig α} {ok:α->Prop} {e:Nat} (hτ:T t=some τ) (hd:τ.ds=.slice e) (hs:τ.size=1) {B:Nat} (hB:(T e).map (·.bytes)=some B) (he:Oi T n e E ok):Oi T (n+1) t (Oj E) (fun l=>l.length*B<=140737488351232∧∀x∈l,ok x):=by
 obtain⟨⟨φ,hφ,hz⟩,hx⟩:=he
 have hb:φ.bytes=B:=by rw[hφ]at hB;simpa using hB
 refine⟨⟨τ,hτ,hs⟩,fun xs h =>?_⟩
 obtain⟨len,ys,h1,h2,h3,h4⟩:=Um h hτ hd hφ
 rw[hz]at h3 h4
 rw[hb]at h2
 obtain⟨l,k1,k2,k3⟩:=ZG E ok len ys h3 fun i hi=>hx _ (h4 i hi)
 subst k1 k2
 exact⟨l,h1,h2,k3⟩
def OpF {α:Type} (T:Nat->Option Ty) (n:Nat) (fs:List (Nat×Nat)) (o:Nat) (E:ig α) (ok:α->Prop):Prop :=
 ∀xs:List D,xs.length=o+E.size->(∀f∈fs,∃φ,T f.1=some φ∧Bh T n f.1 ((xs.drop f.2).take φ.size))->∃x,xs.drop o=E.cells x∧ok x
theorem Yv {α:Type} {E:ig α} {ok:α->Prop} {ft o:Nat} (h:Oi T n ft E ok):OpF T n [(ft,o)] o E ok:=by
 obtain⟨⟨φ,hφ,hz⟩,hx⟩:=h
 intro xs hl hf
 obtain⟨ψ,h1,h2⟩:=hf (ft,o) (by simp)
 cases hφ.symm.trans h1
 rw[aeA (by rw[adB];omega)]at h2
 exact hx _ h2
theorem Wx {α β:Type} {E:ig α} {ok:α->Prop} {E':ig β} {ok':β->Prop} {ft o o':Nat} {fs:List (Nat×Nat)} (h:Oi T n ft E ok) (ho:o'=o+E.size) (h':OpF T n fs o' E' ok'):OpF T n ((ft,o)::fs) o (xr E E') (fun x=>ok x.1∧ok' x.2):=by
 subst ho
 obtain⟨⟨φ,hφ,hz⟩,hx⟩:=h
 intro xs hl hf
 obtain⟨ψ,h1,h2⟩:=hf (ft,o) (by simp)
 cases hφ.symm.trans h1
 obtain⟨x,hx1,hx2⟩:=hx _ h2
 obtain⟨y,hy1,hy2⟩:=h' xs (by rw[hl];show o+(E.size+E'.size)=_;omega) fun f hf'=>hf f (aeI _ hf')
 refine⟨(x,y),?_,hx2,hy2⟩
 show xs.drop o=E.cells x++E'.cells y
 rw[<- hx1,<- hy1,<- hz,<- ae1,ae2]
theorem opS {α β:Type} {E:ig β} {ok:β->Prop} {f:α->β} {hf:∀x y,f x=f y->x=y} {g:β->α} {fs:List (Nat×Nat)} (hτ:T t=some τ) (hd:τ.ds=.struct fs) (hs:τ.size=E.size) (hg:∀y,f (g y)=y) (h:OpF T n fs 0 E ok):Oi T (n+1) t (KO E f hf) (fun x=>ok (f x)):=by
 refine⟨⟨τ,hτ,hs⟩,fun xs hx =>?_⟩
 obtain⟨h1,h2⟩:=Qy hx hτ hd
 obtain⟨y,h3,h4⟩:=h xs (by rw[h1,hs,ad4]) h2
 refine⟨g y,?_,?_⟩
 ·show xs=E.cells (f (g y))
  rw[hg,<- h3,aeB]
 ·show ok (f (g y))
  rw[hg];exact h4
def OpA {α:Type} (T:Nat->Option Ty) (n t:Nat) (A:Arg α) (ok:α->Prop):Prop:=∀d,qC T n t d->∃x,d=A.d x∧ok x
theorem oaI {k:IntKind} (hτ:T t=some τ) (hd:τ.ds=.int k):OpA T (n+1) t (aI k) (fun i=>(Lit.int k i).wf=true):=fun _ h=>XU h hτ hd
theorem acx {α:Type} {E:ig α} {ok:List α->Prop} {e:Nat} (hτ:T t=some τ) (hd:τ.ds=.slice e) (hE:Oi T n t (Oj E) ok):OpA T n t (nc E) ok:=fun d h=>by
 obtain⟨x,h1,h2⟩:=hE.2 _ (Ta h hτ hd)
 simp only[yM,adF,and_true]at h1
 exact⟨x,h1,h2⟩
theorem oaS {α:Type} {E:ig α} {ok:α->Prop} {fs:List (Nat×Nat)} (hτ:T t=some τ) (hd:τ.ds=.struct fs) (hE:Oi T n t E ok):OpA T n t (cN E) ok:=fun d h=>by
 obtain⟨xs,rfl,h1⟩:=OG h hτ hd
 obtain⟨x,h1,h2⟩:=hE.2 _ h1
 exact⟨x,by rw[h1];rfl,h2⟩
def UG {α:Type} (T:Nat->Option Ty) (n:Nat) (ts:List Nat) (A:kZ α) (ok:α->Prop):Prop:=∀ar:List D,ar.length=ts.length->(∀(j:Nat) u,ts[j]? = some u->∃x,ar[j]? = some x∧qC T n u x)->∃x,ar=A.ds x∧ok x
theorem acy {α:Type} {A:Arg α} {ok:α->Prop} (h:OpA T n t A ok):UG T n [t] (fO A) ok:=fun ar hl hs=>by
 obtain⟨a,rfl,ha⟩:=aaU hl hs
 obtain⟨x,rfl,hx⟩:=h a ha
 exact⟨x,rfl,hx⟩
theorem aao {α β:Type} {A:Arg α} {ok:α->Prop} {B:kZ β} {ok':β->Prop} {ts:List Nat} (h:OpA T n t A ok) (h':UG T n ts B ok'):UG T n (t::ts) (iO A B) (fun x=>ok x.1∧ok' x.2):=fun ar hl hs=>by
 obtain⟨a,ar,rfl,ha,hl',hs'⟩:=aaV hl hs
 obtain⟨x,rfl,hx⟩:=h a ha
 obtain⟨y,rfl,hy⟩:=h' ar hl' hs'
 exact⟨(x,y),rfl,hx,hy⟩
theorem aae {P:Program} {f:FuncId} {α:Type} {A:kZ α} {F:α->Option Bool} {ok:α->Prop} {ts:List Nat} (ho:UG T n ts A ok) (hG:bX P f (fR A F (fun r =>.clean (.bool r)))) (h:∀x,ok x->F x=some true) (ar:List D) (hl:ar.length=ts.length)
  (hs:∀(j:Nat) u,ts[j]? = some u->∃x,ar[j]? = some x∧qC T n u x):Ol P f ar (.bool true):=by
 obtain⟨x,rfl,hx⟩:=ho ar hl hs
 refine hG.calls none _ _ none ?_
 rw[aU,h x hx]
 rfl
end
def B7 {α:Type} (e:ig α):ig (List α):=⟨fun l=>[.nx l.length (ae e l)],1,fun _=>rfl,by decide,fun x y h=>by
 simp only[adF,D.nx.injEq,and_true]at h
 exact tC e _ _ h.2⟩
theorem uD {α:Type} (e:ig α) (l:List α):(B7 e).cells l=[.nx l.length (ae e l)]:=af4
theorem tx {α:Type} (e:ig α):(B7 e).size=1:=af4
section
variable {α:Type} (E:ig α) {l:List α} {i:Int} {x x':α}
theorem I8 (cs:List D) (o:Nat) (d:D) (h:o<cs.length):(putCells cs o [d]).length=cs.length:=by
 simp[putCells];omega
theorem I9 (cs:List D) (o:Nat) (d d':D) (h:o<cs.length):putCells (putCells cs o [d]) o [d']=putCells cs o [d']:=by
 unfold putCells
 have h1:(cs.take o).length=o:=by simp;omega
 have h2:(cs.take o++[d]++cs.drop (o+[d].length)).take o=cs.take o:=by
  rw[aev,aez (by omega),aeA (by omega)]
 have h3:(cs.take o++[d]++cs.drop (o+[d].length)).drop (o+[d'].length)=cs.drop (o+[d'].length):=by
  rw[aew (by simp;omega),aeZ (by simp;omega),aeW]
  rfl
 rw[h2,h3]
theorem IW (fo:Nat) (h:P.idx l i=some x) (hfo:fo+1<=E.size):i.toNat*E.size+fo<(ae E l).length:=by
 have:=jy E h
 rw[bL]
 omega
theorem Nq (fo:Nat) (d d':D) (h:P.idx l i=some x) (hc:E.cells x'=putCells (E.cells x) fo [d']) (hfo:fo+1<=E.size):putCells (putCells (ae E l) (i.toNat*E.size+fo) [d]) (i.toNat*E.size+fo) [d']=ae E (l.set i.toNat x'):=by
 rw[I9 _ _ _ _ (IW E fo h hfo)]
 exact dZ E fo [d'] h hc hfo
theorem Sq (fo:Nat) (d:D) (h:P.idx l i=some x) (hfo:fo+1<=E.size):i.toNat*E.size+fo+1<=(putCells (ae E l) (i.toNat*E.size+fo) [d]).length:=by
 rw[I8 _ _ _ (IW E fo h hfo)]
 exact IW E fo h hfo
end
theorem Hp {t s nv n o:Nat} {fz:Bool} {cs xs cs':List D} : za t s nv fz cs o (some ⟨nv,t,cs',fz,true,false⟩) (some (.nx n xs))=[.nr t s nv (putCells cs o [.nx n cs'])]:=by
 simp[za,GW]
theorem Ho {t s nv n o:Nat} {fz:Bool} {cs xs:List D} : za t s nv fz cs o none (some (.nx n xs))=[.nr t s nv (putCells cs o [.und])]:=af4
theorem Sf {α:Type} {E:ig α} {T:Nat->Option Ty} {el B ty' s f:Nat} {φ:Ty} {k:IntKind} {n:Int} {z:α} {m:List α} (hφ:T el=some φ) (hz:ui φ f=E.cells z) (hs:φ.size=E.size) (hd:(φ.zero.map nh).all fb=true) (hl:φ.zero.length=φ.size) (hn:aan ((φ.zero.map nh).drop f).head? = true) (hB:φ.bytes=B) (h:D6 B n n z=some m)
  : ∀(b c:Nat) (z0:List Value) (q:Bool) (e d:Nat),d<1000000->mC T ⟨.slice el,b,c,z0,q⟩ e d ty' s f (.int k n) (.int k n)=some ⟨.buf d e φ.size 0 m.length,[(d,some ⟨e,el,[.nr ty' s (4*e+2) (ae E m)],false,true,true⟩)]⟩:=by
 intro b c z0 q e d hdp
 obtain⟨h1,h2,h3,h4,h5⟩:=mk_one E h
 have hnat:mV (.int k n)=some n.toNat:=by simp[mV,h1]
 have hpos:=E.pos
 unfold mC
 simp only[hφ,hnat]
 rw[if_pos ⟨adh _,by rw[h2];exact h3,by rw[h2,hB];exact h5,by omega,hd,hl,by rw[cR];exact hdp,hn⟩,hz,h2,h4]
theorem Ft {k:IntKind} {n:Int} : fb (.int k n)=true:=af4
theorem BP {b:Bool} : fb (.bool b)=true:=af4
theorem Fu {b:ByteArray} : fb (.str b)=true:=af4
theorem Ks {a b:Bool} {n:Nat} {xs:List D} : fb (.sl a b n xs)=true:=af4
noncomputable def di {α β:Type} (A:kZ α) (F:α->Option β) (R:β->Nat×Nat×Nat×Nat×Nat×List D):List D->Option (Nat×Nat×Nat×Nat×Nat×List D):=fun ds=>open Classical in if h:∃a,A.ds a=ds then (F (Classical.choose h)).map R else none
theorem aaj {α β:Type} (A:kZ α) (F:α->Option β) (R:β->Nat×Nat×Nat×Nat×Nat×List D) (a:α):di A F R (A.ds a)=(F a).map R:=by
 have h:∃b,A.ds b=A.ds a:=⟨a,rfl⟩
 simp only[di]
 rw[dif_pos h,A.inj _ _ (Classical.choose_spec h)]
theorem Wk {α β:Type} {A:kZ α} {F:α->Option β} {R:β->Nat×Nat×Nat×Nat×Nat×List D} {ds:List D} {q:Nat×Nat×Nat×Nat×Nat×List D} (h:di A F R ds=some q):∃a r,ds=A.ds a∧F a=some r∧q=R r:=by
 unfold di at h
 split at h
 ·rename_i he
  rw[adf]at h
  obtain⟨r,h1,h2⟩:=h
  exact⟨_,r,(Classical.choose_spec he).symm,h1,h2.symm⟩
 ·cases h
structure FOk (P:Program) (f:FuncId) (p:List D->Option (Nat×Nat×Nat×Nat×Nat×List D)):Prop where
 callable:dq P f
 calls:∀args ty t s S n cs,p args=some (ty,t,s,S,n,cs)->HU P f args ty t s S n cs
theorem FOk.of {P:Program} {T:Nat->Option Ty} {Γ:Env} (hT:js P T) (hΓ:bB P Γ) (hm:P.follows .mixedOrders=true) {α β:Type} {A:kZ α} {F:α->Option β} {R:β->Nat×Nat×Nat×Nat×Nat×List D} {f:FuncId} {fn:Func} (hf:P.funcs[f]? = some fn) (hok:(match fn.body with|some c=>codeOk c|none=>true)=true)
  (hc:(fn.name == "runtime.NumGoroutine")=false∧fn.body.isNone=false) (hn:∀a,(A.ds a).length<=fn.ntmps) (h:∀a r,F a=some r->sr T Γ FU fn (A.ds a)=some (R r)):FOk P f (di A F R) where
 callable:=⟨fn,hf,hc⟩
 calls args ty t s S n cs hg:=by
  obtain⟨a,r,rfl,hr,he⟩:=Wk hg
  exact Js hT hΓ hm hf hok (hn a) ((h a r hr).trans (by rw[he]))
theorem Od {α:Type} {E EN:ig α} (h:∀x,(EN.cells x).map D1=E.cells x):∀l:List α,(ae EN l).map D1=ae E l
 | []=>rfl
 | x::l=>by rw[aJ,aJ,aeE,h x,Od h l]
theorem GQ {α:Type} {EN:ig α} {s:Nat} (h:∀x,(EN.cells x).all (vE s)=true):∀l:List α,(ae EN l).all (vE s)=true
 | []=>rfl
 | x::l=>by rw[aJ,List.all_append,h x,GQ h l];rfl
theorem bX.ofW {P:Program} {T:Nat->Option Ty} {Γ:Env} (hT:js P T) (hΓ:bB P Γ) (hm:P.follows .mixedOrders=true) {α γ:Type} {A:kZ α} {F:α->Option (List γ)} {E EN:ig γ} {ty t s:Nat} {f:FuncId} {fn:Func} (hf:P.funcs[f]? = some fn) (hok:(match fn.body with|some c=>codeOk c|none=>true)=true)
  (hc:(fn.name == "runtime.NumGoroutine")=false∧fn.body.isNone=false) (hn:∀a,(A.ds a).length<=fn.ntmps) (hs:EN.size=E.size) (hu:∀x,(EN.cells x).map D1=E.cells x) (ho:∀x,(EN.cells x).all (vE s)=true)
  (h:∀a r,F a=some r->sr T Γ FU fn (A.ds a)=some (ty,t,s,E.size,r.length,ae EN r)):bX P f (fR A F fun r =>.clean (.sl false false r.length (ae E r))) where
 calls lent ada rk out hg:=by
  obtain⟨rfl,rfl,a,r,rfl,hr,rfl⟩:=xK hg
  refine Ju (F:=FU) hT hΓ hm hf hok (hn a) ?_
  unfold QC VO
  rw[h a r hr]
  simp only
  have hl:(ae EN r).length=r.length*E.size:=by rw[bL,hs]
  rw[if_pos ⟨by rw[hl];exact adh _,GQ ho r⟩,Od hu r,aeA (by rw[bL];exact adh _)]
 callable:=⟨fn,hf,hc⟩
noncomputable def Ew {α β γ:Type} (ty t s:Nat) (EN:ig γ) (A:kZ α) (F:γ->α->Option (γ×β)) (R:β->D):Nat->Nat->Nat->Nat->List D->List D->Option (D×List D):=fun ty' t' s' o cs args =>
 open Classical in if h:∃p:List D×List D×γ×α,ty'=ty∧t'=t∧s'=s∧cs=p.1++(EN.cells p.2.2.1++p.2.1)∧o=p.1.length∧args=A.ds p.2.2.2 then
  (F (Classical.choose h).2.2.1 (Classical.choose h).2.2.2).map fun r=>(R r.2,(Classical.choose h).1++(EN.cells r.1++(Classical.choose h).2.1)) else none
theorem IV {α β γ:Type} (ty t s:Nat) (EN:ig γ) (A:kZ α) (F:γ->α->Option (γ×β)) (R:β->D) (pre post:List D) (x:γ) (a:α) :
  Ew ty t s EN A F R ty t s pre.length (pre++(EN.cells x++post)) (A.ds a)=(F x a).map fun r=>(R r.2,pre++(EN.cells r.1++post)):=by
 have h:∃p:List D×List D×γ×α,ty=ty∧t=t∧s=s∧pre++(EN.cells x++post)=p.1++(EN.cells p.2.2.1++p.2.1)∧pre.length=p.1.length∧A.ds a=A.ds p.2.2.2:=⟨(pre,post,x,a),rfl,rfl,rfl,rfl,rfl,rfl⟩
 obtain⟨_,_,_,h1,h2,h3⟩:=Classical.choose_spec h
 obtain⟨e1,e2⟩:=ae9 h1 h2
 obtain⟨e3,e4⟩:=ae9 e2 (by rw[EN.len,EN.len])
 unfold Ew
 rw[dif_pos h,<- e1,<- e4,<- EN.inj _ _ e3,<- A.inj _ _ h3]
theorem T6 {α β γ:Type} {ty t s:Nat} {EN:ig γ} {A:kZ α} {F:γ->α->Option (γ×β)} {R:β->D} {ty' t' s' o:Nat} {cs args:List D} {d:D} {cs':List D} (h:Ew ty t s EN A F R ty' t' s' o cs args=some (d,cs')) :
  ty'=ty∧t'=t∧s'=s∧∃pre post x a r,cs=pre++(EN.cells x++post)∧o=pre.length∧args=A.ds a∧F x a=some r∧d=R r.2∧cs'=pre++(EN.cells r.1++post):=by
 unfold Ew at h
 split at h
 ·rename_i he
  obtain⟨h1,h2,h3,h4,h5,h6⟩:=Classical.choose_spec he
  rw[adf]at h
  obtain⟨r,k1,k2⟩:=h
  simp only[Prod.mk.injEq]at k2
  exact⟨h1,h2,h3,_,_,_,_,r,h4,h5,h6,k1,k2.1.symm,k2.2.symm⟩
 ·cases h
structure XO (P:Program) (f:FuncId) (p:Nat->Nat->Nat->Nat->List D->List D->Option (D×List D)):Prop where
 callable:dq P f
 calls:∀ty t s o cs args d cs',p ty t s o cs args=some (d,cs')->HV P f ty t s o cs args d cs'
theorem XO.of {P:Program} {T:Nat->Option Ty} {Γ:Env} (hT:js P T) (hΓ:bB P Γ) (hm:P.follows .mixedOrders=true) {α β γ:Type} {ty t s:Nat} {EN:ig γ} {A:kZ α} {F:γ->α->Option (γ×β)} {R:β->D} {f:FuncId} {fn:Func} (hf:P.funcs[f]? = some fn) (hok:(match fn.body with|some c=>codeOk c|none=>true)=true)
  (hc:(fn.name == "runtime.NumGoroutine")=false∧fn.body.isNone=false) (hn:∀a,(A.ds a).length+1<=fn.ntmps) (h:∀pre post x a x' r,F x a=some (x',r)->ss T Γ FU fn ty t s pre.length (pre++(EN.cells x++post)) (A.ds a)=some (R r,pre++(EN.cells x'++post))):XO P f (Ew ty t s EN A F R) where
 callable:=⟨fn,hf,hc⟩
 calls ty' t' s' o cs args d cs' hg:=by
  obtain⟨rfl,rfl,rfl,pre,post,x,a,r,rfl,rfl,rfl,hr,rfl,rfl⟩:=T6 hg
  exact Jt hT hΓ hm hf hok (hn a) (h pre post x a r.1 r.2 hr)
theorem Nn {α:Type} {x:Bool×α} {q:α} (h:Nm x=some q):x=(false,q):=by
 obtain⟨b,y⟩:=x
 cases b
 ·cases h;rfl
 ·cases h
theorem NR {α:Type} {x:Bool×α} {q:α} (h:NQ x=some q):x=(true,q):=by
 obtain⟨b,y⟩:=x
 cases b
 ·cases h
 ·cases h;rfl
def aaX {α:Type} (E EN:ig α) (hs:EN.size=E.size) (hd:∀x y,E.cells x≠EN.cells y):ig (Bool×α):=⟨fun p=>match p.1 with|true=>E.cells p.2|false=>EN.cells p.2,E.size,fun p=>by
  obtain⟨b,x⟩:=p
  cases b
  ·exact (EN.len x).trans hs
  ·exact E.len x,E.pos,fun p q h=>by
  obtain⟨b,x⟩:=p
  obtain⟨c,y⟩:=q
  cases b<;>cases c
  ·exact congrArg (Prod.mk false) (EN.inj x y h)
  ·exact absurd h.symm (hd _ _)
  ·exact absurd h (hd _ _)
  ·exact congrArg (Prod.mk true) (E.inj x y h)⟩
theorem F7 {α:Type} {EN:ig α} {EF:ig (Bool×α)} (hF:∀x,EF.cells (false,x)=EN.cells x):∀l:List α,ae EN l=ae EF (F6 l)
 | []=>rfl
 | x::l=>by
  have ih:=F7 hF l
  rw[aJ,ih,<- hF x]
  rfl
theorem F8 {α:Type} {l:List α} : (F6 l).length=l.length:=adL ..
theorem Ci {γ:Type} {E:ig γ} {C:List γ} {i:Int} {x:γ} (h:P.idx C i=some x) (y:γ):ae E (C.set i.toNat y)=ae E (C.take i.toNat)++(E.cells y++ae E (C.drop (i.toNat+1)))∧(ae E (C.take i.toNat)).length=i.toNat*E.size:=by
 have hb:=oI h
 refine⟨?_,by rw[bL,adA];congr 1;omega⟩
 rw[Qb E C i.toNat x (IB h) y,<- ef,aev]
 congr 2
 have:i.toNat*E.size+E.size=(i.toNat+1)*E.size:=by rw[aed]
 rw[this,nU]
theorem VL {γ:Type} {E:ig γ} {C:List γ} {i:Int} {x:γ} (h:P.idx C i=some x):ae E C=ae E (C.take i.toNat)++(E.cells x++ae E (C.drop (i.toNat+1))):=by
 have h1:=(Ci (E:=E) h x).1
 have h2:C.set i.toNat x=C:=by
  obtain⟨hlt,he⟩:=adK.1 (IB h)
  rw[<- he,List.set_getElem_self]
 rwa [h2]at h1
theorem Sd {α β γ:Type} {ty t s:Nat} {EN:ig γ} {EF:ig (Bool×γ)} (hF:∀x,EF.cells (false,x)=EN.cells x) {A:kZ α} {F:γ->α->Option (γ×β)} {R:β->D} {C:List (Bool×γ)} {i:Int} {q:γ} (h:P.idx C i=some (false,q)) (a:α) :
  Ew ty t s EN A F R ty t s (i.toNat*EF.size) (ae EF C) (A.ds a)=(F q a).map fun r=>(R r.2,ae EF (C.set i.toNat (false,r.1))):=by
 have h1:=VL (E:=EF) h
 have h2:=(Ci (E:=EF) h (false,q)).2
 rw[h1,<- h2,hF,IV]
 congr 1
 funext r
 rw[(Ci (E:=EF) h (false,r.1)).1,hF]
theorem XE {K:Nat} (pre cs post:List D) (hK:cs.length=K):qz K pre.length (pre++(cs++post))=pre++(cs.map D1++post):=by
 apply afh
 intro j
 rw[su]
 by_cases h1:j<pre.length
 ·rw[adV (l₁:=pre) h1,adV (l₁:=pre) h1,adu h1]
  simp only[Option.map_some]
  rw[if_neg (by omega)]
 ·rw[adW (l₁:=pre) (by omega),adW (l₁:=pre) (by omega)]
  by_cases h2:j-pre.length<cs.length
  ·rw[adV (l₁:=cs) h2,adV (l₁:=cs.map D1) (by rw[adL];exact h2),ade,adu h2]
   simp only[Option.map_some]
   rw[if_pos (by omega)]
  ·rw[adW (l₁:=cs) (by omega),adW (l₁:=cs.map D1) (by rw[adL];omega),adL]
   cases post[j-pre.length-cs.length]? with
   | none=>rfl
   | some d =>
    simp only[Option.map_some]
    rw[if_neg (by omega)]
theorem aa1 {γ:Type} {s:Nat} {E EN:ig γ} {EF:ig (Bool×γ)} (hF:∀x,EF.cells (false,x)=EN.cells x) (hT:∀x,EF.cells (true,x)=E.cells x) (hu:∀x,(EN.cells x).map D1=E.cells x) (ho:∀x,(EN.cells x).all (vE s)=true) {C:List (Bool×γ)} {i:Int} {x:Bool×γ} (h:P.idx C i=some x) (q:γ) :
  (((ae EF (C.set i.toNat (false,q))).drop (i.toNat*EF.size)).take EF.size).all (vE s)=true∧qz EF.size (i.toNat*EF.size) (ae EF (C.set i.toNat (false,q)))=ae EF (C.set i.toNat (true,q)):=by
 obtain⟨h1,h2⟩:=Ci (E:=EF) h (false,q)
 have h3:=EF.len (false,q)
 have hb:=oI h
 refine⟨?_,?_⟩
 ·rw[h1,<- h2,List.drop_left' rfl,aez (by omega),aeA (by omega),hF]
  exact ho q
 ·rw[(Ci (E:=EF) h (true,q)).1,h1,<- h2,XE _ _ _ h3,hF,hu,hT]
section
variable {pre l:List D} {k m:Nat}
theorem Xz:(pre++l).take (pre.length+k)=pre++l.take k:=List.take_length_add_append ..
theorem SZ:(pre++l).take pre.length=pre:=List.take_left' rfl
theorem OR:(pre++l).drop (pre.length+k)=l.drop k:=List.drop_length_add_append ..
theorem Rv:(pre++l).drop pre.length=l:=List.drop_left' rfl
theorem Rw:(pre++l).drop (pre.length+k+m)=l.drop (k+m):=by rw[adC,OR]
theorem Pp:(pre.length+k<=(pre++l).length)=(k<=l.length):=by rw[aej];exact propext ⟨fun h=>by omega,fun h=>by omega⟩
theorem R6:(pre.length+k+m<=(pre++l).length)=(k+m<=l.length):=by rw[adC,Pp]
end
theorem MU {ty t s nv:Nat} {cs:List D} : gr ty t s nv cs=⟨0,ty,[.nr t s nv cs],false,true,true⟩:=af4
theorem ZN:type_of% (ai @MU<|ai @Xz<|ai @SZ<|ai @OR<|ai @Rv<|ai @Rw<|ai @Pp<|ai @R6<|@aev):=⟨@MU,@Xz,@SZ,@OR,@Rv,@Rw,@Pp,@R6,@aev⟩
theorem Ma {τ:Ty} {h:Nat->Option Row} {x v o:Nat} : ng τ h x v o none=none:=af4
theorem RU {d:D} {l:List D} : (d::l).head? = some d:=af4
theorem Sw {r:Row} {f:Row->Option Row} : (some r).bind f=f r:=af4
theorem Sv {f:Row->Option Row} : (none:Option Row).bind f=none:=af4
theorem Ki {x o:Nat} : clP x o none=none:=af4
theorem JN {q:Option (List D×List Nat)} : caC none q=none:=af4
theorem E6 {Γ:Env} {h:Nat->Option Row} {e g:Nat} {dst:Option Nat} : U3 Γ h e dst g none=none:=af4
theorem XF {o:Nat} {cs:List D} : qz 0 o cs=cs:=HT o cs
theorem YS {x o n:Nat} (h:n<1000000):(NK x o=n)=False:=by
 have:=fP x o
 have:=cR
 exact propext ⟨fun e=>by omega,fun e=>e.elim⟩
theorem UF {x o n:Nat} (h:n<1000000):(n=NK x o)=False:=by
 have:=fP x o
 have:=cR
 exact propext ⟨fun e=>by omega,fun e=>e.elim⟩
theorem zZ {g:Nat} : a7.lends g=false:=af4
theorem GK {g:Nat} {l:Option (D×Row)} {ada:List D} : a7.sem g l ada=none:=af4
theorem Bu {Γ:Env} {h:Nat->Option Row} {e g:Nat} {dst:Option Nat} {args:List D} {b:Bool} (hb:b=false) (hs:∀ada,Γ.sem g none ada=none):Bt b Γ h e dst g args=none:=by
 subst hb
 rw[yI]
 simp only[U3]
 cases bk h args with
 | none=>rfl
 | some q =>
  obtain⟨ada,fr⟩:=q
  simp only[hs]
  rfl
theorem ZM:type_of% (ai @zZ<|ai @GK<|@Bu):=⟨@zZ,@GK,@Bu⟩
theorem vn:type_of% (ai @Ho<|ai @F8<|ai @Hp<|ai @YS<|ai @UF<|ai @TH.eq_1<|ai @Ki<|ai @JN<|ai @E6<|ai @XF<|ai @Sw<|ai @Sv<|ai @Ma<|ai @RU<|ai @uD<|ai @Ft<|ai @BP<|ai @Fu<|ai @Ks<|@tx):=⟨@Ho,@F8,@Hp,@YS,@UF,@TH.eq_1,@Ki,@JN,@E6,@XF,@Sw,@Sv,@Ma,@RU,@uD,@Ft,@BP,@Fu,@Ks,@tx⟩
end Go.Proofs.Ytchndpjlijbplaa.Am
namespace Go.Proofs.Ytchndpjlijbplaa.Am
open Go.RowKit Go.Proofs.Ytchndpjlijbplaa.P Go.Shelf Go.Lib
set_option linter.unusedSimpArgs false
set_option linter.unusedVariables false
section
variable {P:Program}
theorem si (w:World) (dT sT ty elem:TypeId) (K b o dLen dCap:Nat) (a:Addr) (sLen sCap:Nat) (cs:List Value)
  (hu:P.underlying dT=some (.slice elem)) (hs:(P.info? elem).map (·.size)=some K) (hn:cs.length=Nat.min sLen dLen*K)
  (hsrc:∀j v,cs[j]? = some v->w.cell? (a.add j)=some v) (hc:∀j,j<cs.length->(w.cell? ⟨b,o+j,none⟩).isSome=true) (hf:∀j,j<cs.length->w.frozen? ⟨b,o+j,none⟩=false) (h1:∀v∈cs,v.oneCell'=true) :
  (Builtin.copy_ #[dT,sT] ty #[.slice (some ⟨b,o,none⟩) dLen dCap,.slice (some a) sLen sCap]).run P w=.ok (goInt (Nat.min sLen dLen)) (w.setCells b o cs):=by
 have hl:=run_loadCells_list (P:=P) w a cs hsrc
 have hst:=run_storeCells_cells (P:=P) b o cs 0 w (by simpa using hc) (by simpa using hf) h1
 cases hq:P.info? elem with
 | none=>simp[hq]at hs
 | some i =>
  have hi:i.size=K:=by simpa [hq] using hs
  simp[Builtin.copy_,run_underlying hu,Builtin.lenOf,Builtin.firstCells,sizeOf,typeInfo,hq,hi,<- hn,hl,hst]
theorem zi (w:World) {ops:Array Oper} {rest:List Oper} {o:Oper} {a:Act} {Q:Exit->Act->World->Prop} (hgd:o.guard=none) (s:Operand) (t:TypeId)
  (ho:o.op=.call { callee := .builtin .clear,args:=#[s],argTypes:=#[t] }) (v:Value) (hd:a.eval s=v) {v':Value} {w':World}
  (hr:(Builtin.clear_ #[t] o.type #[v]).run P w=.ok v' w') (h:wpList P ops Q rest (a.put o.dst v') w'):wpList P ops Q (o::rest) a w :=
 wpList_plain hgd fun _ hK=>by
  unfold Oper.wp execOp
  simp only[ho,resolve,invoke,builtin,adO,Sem.run_pure,Result.andThen_ok,List.map_toArray,adn,ad5,hd,hr]
  exact hK _ _ h
theorem NG (w:World) (t e ty:TypeId) (z:Value) (ht:P.underlying t=some (.slice e)) (hv:∀w,(zeroValue e).run P w=.ok z w) (b o n c:Nat) (hn:0<n) (cs:List Value) (hcs:(Builtin.zeroCells z.cells n).toList=cs) (h1:∀v∈cs,v.oneCell'=true)
  (hc:∀j,j<cs.length->(w.cell? ⟨b,o+j,none⟩).isSome=true) (hf:∀j,j<cs.length->w.frozen? ⟨b,o+j,none⟩=false) :
  (Builtin.clear_ #[t] ty #[.slice (some ⟨b,o,none⟩) n c]).run P w=.ok (.tuple #[]) (w.setCells b o cs):=by
 have hst:=run_storeCells_cells (P:=P) b o cs 0 w (by simpa using hc) (by simpa using hf) h1
 simp only[Nat.add_zero]at hst
 obtain⟨m,rfl⟩:∃m,n=m+1:=⟨n-1,by omega⟩
 simp[Builtin.clear_,run_underlying ht,hv,hcs,hst]
end
theorem IC:(Try.prog.info? 74).map (fun i=>(i.zero,i.size,i.bytes))=some (some (Value.agg #[.int .i64 0,.int .i64 0,.slice none 0 0,.int .i64 0,.slice none 0 0]),5,72):=by kernel_rfl
theorem WM:(Try.prog.info? 74).map (·.size)=some 5:=by kernel_rfl
set_option maxHeartbeats 4000000 in
set_option maxRecDepth 100000 in
theorem Ku (a:Option Addr) (n c i:Nat) (w:World) (hi:i<=n) (hn:n<=c) (hc:c<=9223372036854775807) (ha:a=none->c=0) :
  Calls Try.prog 70 #[.slice a n c,.int .i64 i,.int .i64 i] w fun e w'=>e=.returned (.slice a n c)∧w'=w:=by
 go_enter Try.func70,Try.ntmps70
 cases a with
 | none =>
  have:=ha rfl
  subst this
  obtain rfl:n=0:=by omega
  obtain rfl:i=0:=by omega
  go_wp2
  all_goals (go_ret;exact⟨rfl,rfl⟩)
 | some a =>
  obtain⟨ab,ao,asp⟩:=a
  go_wp2
  all_goals (go_ret;exact⟨rfl,rfl⟩)
def kY:Value := .agg #[.int .i64 0,.int .i64 0,.slice none 0 0,.int .i64 0,.slice none 0 0]
theorem AB:kY.cells = #[.int .i64 0,.int .i64 0,.slice none 0 0,.int .i64 0,.slice none 0 0]:=rfl
theorem mn (n:Nat):(Builtin.zeroCells kY.cells n).toList.length=n*5:=by
 simp[Builtin.zeroCells,AB]
theorem Ut (n:Nat):∀v∈(Builtin.zeroCells kY.cells n).toList,v.oneCell'=true:=by
 intro v hv
 simp only[Builtin.zeroCells,AB,ad9,adg]at hv
 obtain⟨i,_,rfl⟩:=hv
 have h5:i % 5<5:=aea _ (by decide)
 simp only[aet,List.length_cons,List.length_nil,ad4,Nat.reduceAdd]
 generalize i % 5=k at *
 match k,h5 with
 | 0,_=>rfl
 | 1,_=>rfl
 | 2,_=>rfl
 | 3,_=>rfl
 | 4,_=>rfl
set_option maxHeartbeats 4000000 in
set_option maxRecDepth 100000 in
theorem Vq (b off n c i j:Nat) (cs:List Value) (w:World) (hl:cs.length=n*5) (hcs:∀k v,cs[k]? = some v->w.cell? ⟨b,off+k,none⟩=some v) (hfz:∀k,w.frozen? ⟨b,k,none⟩=false) (h1:∀v∈cs,v.oneCell'=true)
  (hnc:n<=c) (hc:c<=9223372036854775807) (hij:i<j) (hj:j<=n) :
  Calls Try.prog 70 #[.slice (some ⟨b,off,none⟩) n c,.int .i64 i,.int .i64 j] w fun e w'=>e=.returned (.slice (some ⟨b,off,none⟩) (i+(n-j)) c) ∧
   w'=(w.drew.setCells b (off+i*5) (cs.drop (j*5))).setCells b (off+(i+(n-j))*5) (Builtin.zeroCells kY.cells (n-(i+(n-j)))).toList:=by
 have t0:=Try.underlying67
 obtain⟨i0,hi0,hz0,hz1,hz2⟩:=info_parts IC
 have v0:∀w,(zeroValue 74).run Try.prog w=.ok kY w:=fun w=>by simp[zeroValue,typeInfo,hi0,hz0,kY]
 obtain⟨A,hA,hsrc⟩:∃A:Addr,(if c=j then some (⟨b,off,none⟩:Addr) else some ⟨b,off+j*5,none⟩)=some A∧Hid (∀t u,(cs.drop (j*5))[t]? = some u->w.drew.cell? (A.add t)=some u):=by
  by_cases h:c=j
  ·refine⟨⟨b,off,none⟩,by simp[h],fun t u hu =>?_⟩
   have h0:(cs.drop (j*5)).length=0:=by rw[adB,hl];omega
   rw[List.length_eq_zero_iff.1 h0]at hu
   simp at hu
  ·refine⟨⟨b,off+j*5,none⟩,by simp[h],fun t u hu =>?_⟩
   rw[ady]at hu
   rw[af3,adC]
   exact hcs _ _ hu
 have hdl:(cs.drop (j*5)).length=(n-j)*5:=by rw[adB,hl,Nat.sub_mul]
 have hsp:∀k,k<n*5->(w.cell? ⟨b,off+k,none⟩).isSome=true:=fun k hk=>by
  rw[hcs k _ (adu (by omega))];rfl
 have s1:Hid ((cs.drop (j*5)).length=(n-j)*5):=hdl
 have s2:Hid (∀u∈cs.drop (j*5),u.oneCell'=true):=fun u hu=>h1 u (adZ hu)
 have s3:Hid (∀t,t<(cs.drop (j*5)).length->(w.drew.cell? ⟨b,off+i*5+t,none⟩).isSome=true∧w.drew.frozen? ⟨b,off+i*5+t,none⟩=false):=by
  intro t ht
  rw[hdl]at ht
  rw[adC]
  exact⟨hsp _ (by omega),hfz _⟩
 obtain⟨W1,hW1⟩:∃W1,W1=w.drew.setCells b (off+i*5) (cs.drop (j*5)):=⟨_,rfl⟩
 have hcl:∀ty,(Builtin.clear_ #[67] ty #[.slice (some ⟨b,off+(i+(n-j))*5,none⟩) (n-(i+(n-j))) (c-(i+(n-j)))]).run Try.prog W1=.ok (.tuple #[]) (W1.setCells b (off+(i+(n-j))*5) (Builtin.zeroCells kY.cells (n-(i+(n-j)))).toList) :=
  fun ty=>NG W1 _ _ ty kY t0 v0 b _ _ _ (by omega) _ rfl (Ut _) (fun k hk=>by
   rw[mn]at hk
   rw[hW1,adC]
   exact isSome_setCells b _ _ _ (fun t ht=>(s3.out t ht).1) _ (hsp _ (by omega))) (fun k hk=>by rw[hW1,World.frozen?_setCells];exact hfz _)
 have hW:Hid (W1=w.drew.setCells b (off+i*5) (cs.drop (j*5))):=hW1
 rw[<- hW1]
 have hic:i<=c:=by omega
 have hjc:j<=c:=by omega
 have hne:¬(i=j):=by omega
 have mixed:Try.prog.follows .mixedOrders=true:=by kernel_rfl
 generalize (Builtin.zeroCells kY.cells (n-(i+(n-j)))).toList=Z at hcl ⊢
 clear hW1 hcs hdl hsp
 go_enter Try.func70,Try.ntmps70
 go_wp2_with fail
 go_region_law_o (refine step_append_room rfl (.tmp 22) (.tmp 25) 67 rfl 74 i0 5 t0 hi0 hz1 b off i c (by simp[Act.eval,Act.put]) A (n-j) (c-j) (cs.drop (j*5)) (by simp[Act.eval,Act.put]) s1.out hsrc.out s2.out (by omega) s3.out ?_;rw[<- hW.out])
 go_wp2_with (at_builtin;refine zi _ rfl _ 67 rfl _ rfl (hcl _) ?_)
 go_ret
 exact⟨rfl,rfl⟩
set_option maxHeartbeats 4000000 in
set_option maxRecDepth 100000 in
theorem TG (b off n c i vb voff m vc:Nat) (cs vs:List Value) (w:World) (hi:i<n) (hm:0<m) (hroom:n+m<=c) (hc63:c<=9223372036854775807) (hvb:vb≠b)
  (hcl:cs.length=n*5) (hvl:vs.length=m*5)
  (hcs:∀j v,cs[j]? = some v->w.cell? ⟨b,off+j,none⟩=some v) (hsp:∀j,j<(n+m)*5->(w.cell? ⟨b,off+j,none⟩).isSome=true) (hfz:∀j,w.frozen? ⟨b,j,none⟩=false)
  (hvs:∀j v,vs[j]? = some v->w.cell? ⟨vb,voff+j,none⟩=some v) (h1c:∀v∈cs,v.oneCell'=true) (h1v:∀v∈vs,v.oneCell'=true)
  (tA tB:TypeId) (kA kB:Nat) (hsa:w.shape? vb=some (tA,kA)) (hsb:w.shape? b=some (tB,kB)) (hkB:kB≠0) (hfa:w.frozen? ⟨vb,voff,none⟩=false) (hfe:w.frozen? ⟨vb,kA,none⟩=false) :
  Calls Try.prog 99 #[.slice (some ⟨b,off,none⟩) n c,.int .i64 i,.slice (some ⟨vb,voff,none⟩) m vc] w fun e w' =>
   e=.returned (.slice (some ⟨b,off,none⟩) (n+m) c)∧w'=(w.drew.setCells b (off+(i+m)*5) (cs.drop (i*5))).setCells b (off+i*5) vs:=by
 have t0:=Try.underlying67
 have hz1:¬((m:Int)=0):=by omega
 have hz2:¬((i:Int)=(n:Int)):=by omega
 have hsz:=WM
 have hov:∀lb cb,(callFunc 114 #[.slice (some ⟨vb,voff,none⟩) m vc,.slice (some ⟨b,off+(i+m)*5,none⟩) lb cb]).run Try.prog w=.ok (.value (.bool false)) w:=fun lb cb=>by
  rw[run_callFunc_extern Try.func114 (by kernel_rfl) (by kernel_rfl) (by kernel_rfl) (e:=Extern.SlicesOverlaps.overlaps #[67,67] #[4]) (by kernel_rfl),
   Lib.run_overlaps_apart w 67 4 74 t0 5 Try.sizeOf74 ⟨vb,voff,none⟩ ⟨b,off+(i+m)*5,none⟩ m vc lb cb hvb tA tB kA kB hsa hsb hkB hfa hfe]
  rfl
 have hdl:(cs.drop (i*5)).length=(n-i)*5:=by rw[adB,hcl,Nat.sub_mul]
 have mixed:Try.prog.follows .mixedOrders=true:=by kernel_rfl
 have hw1:IntKind.i64.wrap ((i:Int)+(m:Int))=(i:Int)+(m:Int):=by rw[IntKind.wrap_i64];omega
 have hb1:(0:Int)<=(i:Int)+(m:Int):=by omega
 have hin:i<=n:=by omega
 have htn:((i:Int)+(m:Int)).toNat=i+m:=by omega
 have hb2:¬(c=i+m):=by omega
 have hb3:(i:Int)<=(n:Int)+(m:Int):=by omega
 have hb4:¬(c=i):=by omega
 have hcp1:∀ty dc sc,(Builtin.copy_ #[67,67] ty #[.slice (some ⟨b,off+(i+m)*5,none⟩) (n+m-(i+m)) dc,.slice (some ⟨b,off+i*5,none⟩) (n+m-i) sc]).run Try.prog w.drew=.ok (goInt (Nat.min (n+m-i) (n+m-(i+m)))) (w.drew.setCells b (off+(i+m)*5) (cs.drop (i*5))):=fun ty dc sc =>
  si w.drew _ _ ty 74 5 b (off+(i+m)*5) (n+m-(i+m)) dc ⟨b,off+i*5,none⟩ (n+m-i) sc (cs.drop (i*5)) t0 hsz (by rw[hdl];congr 1;simp only[Nat.min_def];split<;>omega)
   (fun j v hj=>by rw[af3,adC];exact hcs (i*5+j) v (by rwa [ady]at hj))
   (fun j hj=>by rw[adC];exact hsp _ (by omega)) (fun j hj=>hfz _) (fun v hv=>h1c v (adZ hv))
 obtain⟨W1,hW1⟩:∃W1,W1=w.drew.setCells b (off+(i+m)*5) (cs.drop (i*5)):=⟨_,rfl⟩
 have hsp1:∀k,k<(n+m)*5->(W1.cell? ⟨b,off+k,none⟩).isSome=true:=fun k hk=>by
  rw[hW1]
  exact isSome_setCells b _ _ _ (fun j hj=>by rw[adC];exact hsp _ (by omega)) _ (hsp k hk)
 have hcp2:∀(W:World),(∀x,W.cell? x=W1.cell? x)->(∀x,W.frozen? x=W1.frozen? x)->∀ty dc,(Builtin.copy_ #[67,67] ty #[.slice (some ⟨b,off+i*5,none⟩) (n+m-i) dc,.slice (some ⟨vb,voff,none⟩) m vc]).run Try.prog W=.ok (goInt (Nat.min m (n+m-i))) (W.setCells b (off+i*5) vs):=fun W hWc hWf ty dc =>
  si W _ _ ty 74 5 b (off+i*5) (n+m-i) dc ⟨vb,voff,none⟩ m vc vs t0 hsz (by rw[hvl];congr 1;simp only[Nat.min_def];split<;>omega)
   (fun j v hj=>by
    rw[af3,hWc,hW1,World.cell?_setCells_out b _ _ _ _ (fun h _=>absurd h hvb)]
    exact hvs j v hj)
   (fun j hj=>by rw[hWc,adC];exact hsp1 _ (by omega)) (fun j hj=>by rw[hWf,hW1,World.frozen?_setCells];exact hfz _) h1v
 rw[<- hW1]at hcp1
 go_enter Try.func99,Try.ntmps99
 go_wp2_with (simp only[hov])
 go_region_law_o (refine step_copy_runI rfl _ _ 67 67 rfl _ _ (by simp[Act.eval,Act.put]) (by simp[Act.eval,Act.put]) (hcp1 _ _ _) ?_)
 go_wp2_with (at_builtin;refine wpList_copy_runI _ rfl _ _ 67 67 rfl _ _ rfl rfl (hcp2 _ (fun _=>rfl) (fun _=>rfl) _ _) ?_)
 go_ret
 first|exact⟨rfl,rfl⟩|exact⟨rfl,by rw[hW1]⟩
set_option maxHeartbeats 4000000 in
set_option maxRecDepth 100000 in
theorem IE (b off n c vb voff m vc:Nat) (vs:List Value) (w:World) (hm:0<m) (hroom:n+m<=c) (hc63:c<=9223372036854775807)
  (hvl:vs.length=m*5) (hsp:∀j,j<m*5->(w.cell? ⟨b,off+n*5+j,none⟩).isSome=true) (hfz:∀j,w.frozen? ⟨b,j,none⟩=false)
  (hvs:∀j v,vs[j]? = some v->w.cell? ⟨vb,voff+j,none⟩=some v) (h1v:∀v∈vs,v.oneCell'=true) :
  Calls Try.prog 99 #[.slice (some ⟨b,off,none⟩) n c,.int .i64 n,.slice (some ⟨vb,voff,none⟩) m vc] w fun e w' =>
   e=.returned (.slice (some ⟨b,off,none⟩) (n+m) c)∧w'=w.setCells b (off+n*5) vs:=by
 have t0:=Try.underlying67
 have mixed:Try.prog.follows .mixedOrders=true:=by kernel_rfl
 obtain⟨i0,hi0,hz0,hzs,hzb⟩:=info_parts IC
 have hz1:¬((m:Int)=0):=by omega
 have hsrc:Src Try.prog i0.size 67 (.slice (some ⟨vb,voff,none⟩) m vc) m vs w:=Src.ofSlice w t0 ⟨vb,voff,none⟩ m vc vs (by rw[hzs];omega) (fun j u hj=>by rw[af3];exact hvs j u hj) h1v
 have e5:off+n*i0.size=off+n*5:=by rw[hzs]
 have hsp':Hid (∀j,j<vs.length->(w.cell? ⟨b,off+n*i0.size+j,none⟩).isSome=true):=fun j hj=>by rw[e5];exact hsp j (by omega)
 rw[<- e5]
 have hin:n<=c:=by omega
 go_enter Try.func99,Try.ntmps99
 go_wp2_with (at_builtin;refine wpList_append_room_src _ rfl _ _ 67 67 rfl 74 i0 t0 hi0 b off n c rfl _ rfl m vs hsrc hroom hsp'.out (fun _ _=>hfz _) ?_)
 go_ret
 exact⟨rfl,by rw[hzs]⟩
set_option maxHeartbeats 4000000 in
set_option maxRecDepth 100000 in
theorem xH (base:Option Addr) (n c vb voff m vc:Nat) (cs vs:List Value) (w:World) (hm:0<m) (hnc:n<=c) (hc63:c<=9223372036854775807) (hroom:c<n+m) (hbig:(n+m)*72<=140737488355328)
  (hcl:cs.length=n*5) (hvl:vs.length=m*5) (hnil:base=none->n=0)
  (hcs:∀a,base=some a->∀j v,cs[j]? = some v->w.cell? (a.add j)=some v)
  (hvs:∀j v,vs[j]? = some v->w.cell? ⟨vb,voff+j,none⟩=some v) (h1v:∀v∈vs,v.oneCell'=true) :
  Calls Try.prog 99 #[.slice base n c,.int .i64 n,.slice (some ⟨vb,voff,none⟩) m vc] w fun e w' =>
   e=.returned (.slice (some ⟨w.heap.size,0,none⟩) (n+m) (grownCap w (n+m) c 74)) ∧
   w'=w.drew.alloc (.cells ((cs++vs).toArray++Builtin.zeroCells kY.cells (grownCap w (n+m) c 74-(n+m))) 74):=by
 have t0:=Try.underlying67
 have mixed:Try.prog.follows .mixedOrders=true:=by kernel_rfl
 obtain⟨i0,hi0,hz0,hzs,hzb⟩:=info_parts IC
 have hz1:¬((m:Int)=0):=by omega
 have hsrc:Src Try.prog i0.size 67 (.slice (some ⟨vb,voff,none⟩) m vc) m vs w:=by
  rw[hzs]
  exact Src.ofSlice w t0 ⟨vb,voff,none⟩ m vc vs (by omega) (fun j u hj=>by rw[af3];exact hvs j u hj) h1v
 have hold:(Builtin.firstCells i0.size n (.slice base n c)).run Try.prog w.drew=.ok cs.toArray w.drew:=by
  rw[hzs]
  cases base with
  | none =>
   have h0:=hnil rfl
   subst h0
   obtain rfl:cs=[]:=List.length_eq_zero_iff.1 (by omega)
   exact run_firstCells_none w.drew 5 0 0 c
  | some a=>exact run_firstCells_some w.drew 5 n a n c cs (by omega) (fun j v hj=>hcs a rfl j v hj)
 have hrun:∀ty,(Builtin.append_ #[67,67] ty #[.slice base n c,.slice (some ⟨vb,voff,none⟩) m vc]).run Try.prog w=_:=fun ty =>
  run_append_grow_src w 67 67 ty 74 i0 _ t0 hi0 hz0 base n c cs hold _ m vs hsrc hroom (by omega) (by rw[hzb];exact growslice_fits hroom hbig)
 generalize hR:w.drew.alloc (.cells ((cs++vs).toArray++Builtin.zeroCells kY.cells (grownCap w (n+m) c 74-(n+m))) 74)=R
 have hrun':∀ty,(Builtin.append_ #[67,67] ty #[.slice base n c,.slice (some ⟨vb,voff,none⟩) m vc]).run Try.prog w=.ok (.slice (some ⟨w.heap.size,0,none⟩) (n+m) (grownCap w (n+m) c 74)) R:=fun ty=>by rw[hrun ty,<- hR];rfl
 clear hrun hold hR
 go_enter Try.func99,Try.ntmps99
 cases base with
 | none =>
  have h0:=hnil rfl
  subst h0
  go_wp2_with (at_builtin;refine Lib.wpList_append_run _ rfl _ _ _ _ rfl _ _ rfl rfl _ _ (hrun' _) ?_)
  go_ret
  exact⟨rfl,rfl⟩
 | some a =>
  obtain⟨ab,ao,asp⟩:=a
  go_wp2_with (at_builtin;refine Lib.wpList_append_run _ rfl _ _ _ _ rfl _ _ rfl rfl _ _ (hrun' _) ?_)
  all_goals (go_ret;exact⟨rfl,rfl⟩)
set_option maxHeartbeats 4000000 in
set_option maxRecDepth 100000 in
theorem V5 (b off n c i vb voff m vc:Nat) (cs vs:List Value) (w:World) (hi:i<n) (hm:0<m) (hnc:n<=c) (hroom:c<n+m) (hbig:(n+m)*72<=140737488355328)
  (hcl:cs.length=n*5) (hvl:vs.length=m*5)
  (hcs:∀j v,cs[j]? = some v->w.cell? ⟨b,off+j,none⟩=some v)
  (hvs:∀j v,vs[j]? = some v->w.cell? ⟨vb,voff+j,none⟩=some v) (h1c:∀v∈cs,v.oneCell'=true) (h1v:∀v∈vs,v.oneCell'=true) :
  Calls Try.prog 99 #[.slice (some ⟨b,off,none⟩) n c,.int .i64 i,.slice (some ⟨vb,voff,none⟩) m vc] w fun e w' =>
   e=.returned (.slice (some ⟨w.heap.size,0,none⟩) (n+m) (grownCap w (n+m) c 74)) ∧
   w'=(((w.alloc (.cells ((cs.take (i*5)).toArray++Builtin.zeroCells kY.cells (n+m-i)++Builtin.zeroCells kY.cells (grownCap w (n+m) c 74-(n+m))) 74)).drew.setCells w.heap.size (i*5) vs).drew).setCells w.heap.size ((i+m)*5) (cs.drop (i*5)):=by
 have t0:=Try.underlying67
 have mixed:Try.prog.follows .mixedOrders=true:=by kernel_rfl
 obtain⟨i0,hi0,hz0,hzs,hzb⟩:=info_parts IC
 have hz1:¬((m:Int)=0):=by omega
 have hz2:¬((i:Int)=(n:Int)):=by omega
 have hz3:(c:Int)<(n:Int)+(m:Int):=by omega
 have hsz:=WM
 have hbw:b<w.heap.size:=block_lt_of_cell (hcs 0 _ (adu (by omega)))
 have hvw:vb<w.heap.size:=block_lt_of_cell (hvs 0 _ (adu (by omega)))
 have hkk:(n:Int)+(m:Int)-(i:Int)=((n+m-i:Nat):Int):=by omega
 have hik:i+(n+m-i)=n+m:=by omega
 have hold:(Builtin.firstCells i0.size i (.slice (some ⟨b,off,none⟩) i c)).run Try.prog w.drew=.ok (cs.take (i*5)).toArray w.drew:=by
  rw[hzs]
  exact run_firstCells_some w.drew 5 i ⟨b,off,none⟩ i c (cs.take (i*5)) (by rw[adA];omega) (fun j v hj=>by
   rw[af3]
   rw[adx]at hj
   split at hj
   ·exact hcs j v hj
   ·cases hj)
 obtain⟨G,hG⟩:∃G,G=grownCap w (n+m) c 74:=⟨_,rfl⟩
 obtain⟨ROW,hROW⟩:∃ROW:Array Value,ROW=(cs.take (i*5)).toArray++Builtin.zeroCells kY.cells (n+m-i)++Builtin.zeroCells kY.cells (G-(n+m)):=⟨_,rfl⟩
 have hrz:∀ty,(Builtin.append_ #[67,3] ty #[.slice (some ⟨b,off,none⟩) i c,.int .i64 ((n:Int)+(m:Int)-(i:Int))]).run Try.prog w =
   .ok (.slice (some ⟨w.heap.size,0,none⟩) (n+m) G) (w.drew.alloc (.cells ROW 74)):=fun ty=>by
  have h:=Lib.run_append_grow_zeros w 67 3 ty 74 i0 kY .i64 .i64 t0 Try.underlying3 hi0 hz0 (some ⟨b,off,none⟩) i c (cs.take (i*5)) hold (n+m-i) (by omega) (by omega) (by omega) (by omega) (by rw[hzb];omega) (by rw[hzb,hik];exact growslice_fits hroom hbig)
  rw[hik]at h
  rw[hkk,hROW,hG]
  exact h
 rw[<- hG]
 rw[<- hROW]
 have hRl:(n+m)*5<=ROW.size:=by
  have h1:(Builtin.zeroCells kY.cells (n+m-i)).size=(n+m-i)*5:=by have:=mn (n+m-i);simpa using this
  rw[hROW,aes,aes,h1]
  simp only[aet,adA]
  omega
 obtain⟨W1,hW1⟩:∃W1,W1=w.drew.alloc (.cells ROW 74):=⟨_,rfl⟩
 rw[<- hW1]at hrz
 have hN:∀j,j<(n+m)*5->(W1.cell? ⟨w.heap.size,j,none⟩).isSome=true:=fun j hj=>by
  rw[hW1,World.cell?_alloc_at (w:=w.drew) ROW _ w.heap.size j rfl,aek (by omega)];rfl
 have hNf:∀j,W1.frozen? ⟨w.heap.size,j,none⟩=false:=fun j=>by rw[hW1];exact World.frozen?_alloc_at (w:=w.drew) ROW _ w.heap.size j rfl
 have hOb:∀j v,w.cell? ⟨b,j,none⟩=some v->W1.cell? ⟨b,j,none⟩=some v:=fun j v h=>by rw[hW1,World.cell?_alloc_past (w:=w.drew) _ b j hbw];exact h
 have hOv:∀j v,w.cell? ⟨vb,j,none⟩=some v->W1.cell? ⟨vb,j,none⟩=some v:=fun j v h=>by rw[hW1,World.cell?_alloc_past (w:=w.drew) _ vb j hvw];exact h
 have hcpA:∀(W:World),(∀x,W.cell? x=W1.cell? x)->(∀x,W.frozen? x=W1.frozen? x)->∀ty dc,(Builtin.copy_ #[67,67] ty #[.slice (some ⟨w.heap.size,i*5,none⟩) (n+m-i) dc,.slice (some ⟨vb,voff,none⟩) m vc]).run Try.prog W=.ok (goInt (Nat.min m (n+m-i))) (W.setCells w.heap.size (i*5) vs):=fun W hWc hWf ty dc =>
  si W _ _ ty 74 5 w.heap.size (i*5) (n+m-i) dc ⟨vb,voff,none⟩ m vc vs t0 hsz (by rw[hvl];congr 1;simp only[Nat.min_def];split<;>omega)
   (fun j v hj=>by rw[af3,hWc];exact hOv _ v (hvs j v hj))
   (fun j hj=>by rw[hWc];exact hN _ (by omega)) (fun j hj=>by rw[hWf];exact hNf _) h1v
 have hGn:n+m<=G:=by rw[hG];exact grownCap_ge w _ _ _
 have hG63:G<=9223372036854775807:=by
  have:=grownCap_le_maxLen w (n+m) c 74 (by unfold maxLen;omega)
  rw[<- hG]at this
  unfold maxLen at this
  omega
 have hGi:¬(G=i):=by omega
 have hGim:¬(G=i+m):=by omega
 have hci:¬(c=i):=by omega
 have hbN:b≠w.heap.size:=by omega
 have hdl:(cs.drop (i*5)).length=(n-i)*5:=by rw[adB,hcl,Nat.sub_mul]
 have hcpB:∀(W:World),(∀x,W.cell? x=(W1.setCells w.heap.size (i*5) vs).cell? x)->(∀x,W.frozen? x=(W1.setCells w.heap.size (i*5) vs).frozen? x)->∀ty dc sc,(Builtin.copy_ #[67,67] ty #[.slice (some ⟨w.heap.size,(i+m)*5,none⟩) (n+m-(i+m)) dc,.slice (some ⟨b,off+i*5,none⟩) (n-i) sc]).run Try.prog W=.ok (goInt (Nat.min (n-i) (n+m-(i+m)))) (W.setCells w.heap.size ((i+m)*5) (cs.drop (i*5))):=fun W hWc hWf ty dc sc =>
  si W _ _ ty 74 5 w.heap.size ((i+m)*5) (n+m-(i+m)) dc ⟨b,off+i*5,none⟩ (n-i) sc (cs.drop (i*5)) t0 hsz (by rw[hdl];congr 1;simp only[Nat.min_def];split<;>omega)
   (fun j v hj=>by
    rw[af3,hWc,World.cell?_setCells_out _ _ _ _ _ (fun h _=>absurd h hbN),adC]
    exact hOb _ v (hcs (i*5+j) v (by rwa [ady]at hj)))
   (fun j hj=>by rw[hWc];exact isSome_setCells _ _ _ _ (fun t ht=>hN _ (by omega)) _ (hN _ (by omega)))
   (fun j hj=>by rw[hWf,World.frozen?_setCells];exact hNf _) (fun v hv=>h1c v (adZ hv))
 subst hW1
 have hE1:∀x,((w.alloc (.cells ROW 74)).drew).cell? x=(w.drew.alloc (.cells ROW 74)).cell? x:=fun x=>rfl
 have hE2:∀x,((w.alloc (.cells ROW 74)).drew).frozen? x=(w.drew.alloc (.cells ROW 74)).frozen? x:=fun x=>rfl
 have hF1:∀x,(((w.alloc (.cells ROW 74)).drew.setCells w.heap.size (i*5) vs).drew).cell? x=((w.drew.alloc (.cells ROW 74)).setCells w.heap.size (i*5) vs).cell? x:=fun x=>rfl
 have hF2:∀x,(((w.alloc (.cells ROW 74)).drew.setCells w.heap.size (i*5) vs).drew).frozen? x=((w.drew.alloc (.cells ROW 74)).setCells w.heap.size (i*5) vs).frozen? x:=fun x=>rfl
 have hw1:IntKind.i64.wrap ((i:Int)+(m:Int))=(i:Int)+(m:Int):=by rw[IntKind.wrap_i64];omega
 have hb1:(0:Int)<=(i:Int)+(m:Int):=by omega
 have hin:i<=n:=by omega
 have htn:((i:Int)+(m:Int)).toNat=i+m:=by omega
 have hb3:(i:Int)<=(n:Int):=by omega
 clear hkk hik hold hROW hG hRl
 go_enter Try.func99,Try.ntmps99
 go_wp2_with (first
  | (at_builtin;refine Lib.wpList_append_run _ rfl _ _ _ _ rfl _ _ rfl rfl _ _ (hrz _) ?_)
  | (at_builtin;refine wpList_copy_runI _ rfl _ _ 67 67 rfl _ _ rfl rfl (hcpA _ hE1 hE2 _ _) ?_)
  | (at_builtin;refine wpList_copy_runI _ rfl _ _ 67 67 rfl _ _ rfl rfl (hcpB _ (fun _=>rfl) (fun _=>rfl) _ _ _) ?_))
 go_region_law_o (refine step_copy_runI rfl _ _ 67 67 rfl (.slice (some ⟨w.heap.size,(i+m)*5,none⟩) (n+m-(i+m)) (G-(i+m))) (.slice (some ⟨b,off+i*5,none⟩) (n-i) (c-i)) (by simp[Act.eval,Act.put]) (by simp[Act.eval,Act.put]) (hcpB _ hF1 hF2 3 (G-(i+m)) (c-i)) ?_)
 go_wp2
 go_ret
 exact⟨rfl,rfl⟩
end Go.Proofs.Ytchndpjlijbplaa.Am
namespace Go.Proofs.Ytchndpjlijbplaa.Am
open Go.RowKit Go.Proofs.Ytchndpjlijbplaa.P
set_option linter.unusedSimpArgs false
set_option linter.unusedVariables false
theorem Yh:UA Try.prog 99 (74,5,72) where
 callable:=⟨_,Try.func99,by kernel_rfl,by kernel_rfl⟩
 pos:=by decide
 calls w go go' u u' i n m cs cs' h1 h2 hne hl hl' ho ho' hi hm hmax:=by
  simp only at *
  obtain⟨g',c',arr',rfl,rfl,b1,b2,b3,b4,b5⟩:∃g c arr,go'=some g∧u'=.slice (some ⟨g.1,g.2,none⟩) m c∧w.heap[g.1]? = some (.cells arr 74 (0,0))∧c*5+g.2=arr.size∧m<=c∧c<=maxLen∧∀(j:Nat) x,cs'[j]? = some x->arr[g.2+j]? = some x:=by
   rcases h2 with⟨g,c,arr,k⟩|⟨_,rfl,_⟩
   ·exact⟨g,c,arr,by simpa using k⟩
   ·omega
  have hvs:∀(j:Nat) v,cs'[j]? = some v->w.cell? ⟨g'.1,g'.2+j,none⟩=some v:=fun j v hj=>by simp[World.cell?,b1,b5 j v hj]
  rcases h1 with⟨g,c,arr,rfl,rfl,a1,a2,a3,a4,a5⟩|⟨rfl,rfl,rfl,A,rfl⟩
  ·have hcs:∀(j:Nat) v,cs[j]? = some v->w.cell? ⟨g.1,g.2+j,none⟩=some v:=fun j v hj=>by simp[World.cell?,a1,a5 j v hj]
   have hfz:∀j,w.frozen? ⟨g.1,j,none⟩=false:=fun j=>by simp[World.frozen?,a1]
   have hbb:g.1≠g'.1:=hne g g' rfl rfl
   have hlt:g.1<w.heap.size:=(adl.1 a1).1
   have hsp:∀j,j<(n+m)*5->n+m<=c->(w.cell? ⟨g.1,g.2+j,none⟩).isSome=true:=fun j hj hr=>by
    simp only[World.cell?,a1]
    rw[aek (by omega)]
    rfl
   by_cases hin:i=n
   ·subst hin
    have ht:cs.take (i*5)=cs:=aeA (by omega)
    have hd:cs.drop (i*5)=[]:=aeZ (by omega)
    rw[ht,hd,ae5]
    by_cases hroom:i+m<=c
    ·refine (IE g.1 g.2 i c g'.1 g'.2 m c' cs' w hm hroom (by unfold maxLen at a4;omega) hl' (fun j hj=>by have:=hsp (i*5+j) (by omega) hroom;rwa [<- adC]at this) hfz hvs ho').mono fun e w' ⟨he,hw⟩ =>?_
     subst hw
     obtain⟨e1,e2,e3,e4,e5,arr2,e6,e7,e8⟩:=fu g.1 cs' (g.2+i*5) w arr a1 (by omega)
     refine⟨_,he,⟨e1,e2,e3,by omega,fun k hk hn=>e5 k (fun h=>hn ⟨g,rfl,h⟩)⟩,g,c,arr2,rfl,.inr ⟨g,rfl,rfl⟩,e6,hroom,a4,by omega,fun j x hj =>?_⟩
     rw[e8]
     by_cases hj2:j<i*5
     ·rw[if_neg (by omega)]
      rw[adV (by omega)]at hj
      exact a5 j x hj
     ·have hjl:=(adK.1 hj).1
      rw[aej]at hjl
      rw[adW (by omega)]at hj
      rw[if_pos (by omega)]
      rw[<- hj];congr 1;omega
    ·refine (xH (some ⟨g.1,g.2,none⟩) i c g'.1 g'.2 m c' cs cs' w hm a3 (by unfold maxLen at a4;omega) (by omega) hmax hl hl' (fun h=>by cases h) (fun a ha j v hj=>by cases ha;rw[af3];exact hcs j v hj) hvs ho').mono fun e w' ⟨he,hw⟩ =>?_
     subst hw
     have hge:=grownCap_ge w (i+m) c 74
     have hzl:=mn (grownCap w (i+m) c 74-(i+m))
     refine⟨_,he,dj.qo ((Below.refl _ w).drew.alloc (by simp) _),(w.heap.size,0),_,_,rfl,.inl (adh _),heap_alloc_new w.drew _,hge,grownCap_le_maxLen _ _ _ _ (by unfold maxLen;omega),?_,fun j x hj =>?_⟩
     ·rw[adX]at hzl
      simp only[aes,aet,aej,hzl];omega
     ·have hjl:=(adK.1 hj).1
      rw[ad4,aeT (by simpa using hjl)]
      simpa using hj
   ·have hin':i<n:=by omega
    by_cases hroom:n+m<=c
    ·refine (TG g.1 g.2 n c i g'.1 g'.2 m c' cs cs' w hin' hm hroom (by unfold maxLen at a4;omega) (Ne.symm hbb) hl hl' hcs (fun j hj=>hsp j hj hroom) hfz hvs ho ho' 74 74 arr'.size arr.size (by simp[World.shape?,b1]) (by simp[World.shape?,a1]) (by omega) (by simp[World.frozen?,b1]) (by simp[World.frozen?,b1])).mono fun e w' ⟨he,hw⟩ =>?_
     subst hw
     obtain⟨e1,e2,e3,e4,e5,arr2,e6,e7,e8⟩:=fu g.1 (cs.drop (i*5)) (g.2+(i+m)*5) w.drew arr a1 (by simp;omega)
     obtain⟨f1,f2,f3,f4,f5,arr3,f6,f7,f8⟩:=fu g.1 cs' (g.2+i*5) _ arr2 e6 (by omega)
     refine⟨_,he,⟨f1.trans e1,f2.trans e2,f3.trans e3,by rw[f4,e4];exact adh _,fun k hk hn=>(f5 k (fun h=>hn ⟨g,rfl,h⟩)).trans (e5 k (fun h=>hn ⟨g,rfl,h⟩))⟩,g,c,arr3,rfl,.inr ⟨g,rfl,rfl⟩,f6,hroom,a4,by omega,fun j x hj =>?_⟩
     have hjl:=(adK.1 hj).1
     simp only[aej,adA,adB]at hjl
     rw[f8,e8]
     by_cases hj1:j<i*5
     ·rw[adV (by rw[adA];omega),adx,if_pos hj1]at hj
      rw[if_neg (by omega),if_neg (by simp;omega)]
      exact a5 j x hj
     ·rw[adW (by rw[adA];omega),adA,aem (by omega)]at hj
      by_cases hj2:j<(i+m)*5
      ·rw[adV (by omega)]at hj
       rw[if_pos (by omega),<- hj];congr 1;omega
      ·rw[adW (by omega)]at hj
       rw[if_neg (by omega),if_pos (by simp;omega),<- hj];congr 1;omega
    ·refine (V5 g.1 g.2 n c i g'.1 g'.2 m c' cs cs' w hin' hm a3 (by omega) hmax hl hl' hcs hvs ho ho').mono fun e w' ⟨he,hw⟩ =>?_
     subst hw
     have hge:=grownCap_ge w (n+m) c 74
     generalize hG:grownCap w (n+m) c 74=G at *
     have hz1:=mn (n+m-i)
     have hz2:=mn (G-(n+m))
     rw[adX]at hz1 hz2
     generalize hR:((cs.take (i*5)).toArray++Builtin.zeroCells kY.cells (n+m-i)++Builtin.zeroCells kY.cells (G-(n+m)))=R
     have hRs:R.size=G*5:=by subst hR;simp only[aes,aet,adA,hz1,hz2];omega
     have hR0:∀j,j<i*5->R[j]? = cs[j]?:=fun j hj=>by
      subst hR
      rw[Array.append_assoc,aeT (by simp;omega)]
      simp[adx,hj]
     have hw0:(w.alloc (.cells R 74)).drew.heap[w.heap.size]? = some (.cells R 74 (0,0)):=heap_alloc_new w _
     obtain⟨e1,e2,e3,e4,e5,arr2,e6,e7,e8⟩:=fu w.heap.size cs' (i*5) _ R hw0 (by omega)
     obtain⟨f1,f2,f3,f4,f5,arr3,f6,f7,f8⟩:=fu w.heap.size (cs.drop (i*5)) ((i+m)*5) (((w.alloc (.cells R 74)).drew.setCells w.heap.size (i*5) cs').drew) arr2 e6 (by simp;omega)
     refine⟨_,he,⟨f1.trans e1,f2.trans e2,f3.trans e3,?_,fun k hk hn =>?_⟩,(w.heap.size,0),G,arr3,rfl,.inl (adh _),f6,hge,hG ▸ grownCap_le_maxLen _ _ _ _ (by unfold maxLen;omega),by simp only;omega,fun j x hj =>?_⟩
     ·rw[f4]
      show _<=((w.alloc (.cells R 74)).drew.setCells w.heap.size (i*5) cs').heap.size
      rw[e4]
      show _<=(w.alloc (.cells R 74)).heap.size
      simp
     ·rw[f5 k (by omega)]
      show ((w.alloc (.cells R 74)).drew.setCells w.heap.size (i*5) cs').heap[k]? = _
      rw[e5 k (by omega)]
      exact Below.heap_alloc w _ k hk
     ·have hjl:=(adK.1 hj).1
      simp only[aej,adA,adB]at hjl
      rw[ad4,f8,e8]
      by_cases hj1:j<i*5
      ·rw[adV (by rw[adA];omega),adx,if_pos hj1]at hj
       rw[if_neg (by omega),if_neg (by omega),hR0 j hj1,hj]
      ·rw[adW (by rw[adA];omega),adA,aem (by omega)]at hj
       by_cases hj2:j<(i+m)*5
       ·rw[adV (by omega)]at hj
        rw[if_neg (by omega),if_pos (by omega),<- hj]
       ·rw[adW (by omega)]at hj
        rw[if_pos (by simp;omega),<- hj];congr 1;omega
  ·have hi0:i=0:=by omega
   subst hi0
   refine (xH A 0 0 g'.1 g'.2 m c' [] cs' w hm (adh _) (by omega) (by omega) (by omega) rfl hl' (fun _=>rfl) (fun a ha j v hj=>by simp at hj) hvs ho').mono fun e w' ⟨he,hw⟩ =>?_
   subst hw
   have hge:=grownCap_ge w (0+m) 0 74
   have hzl:=mn (grownCap w (0+m) 0 74-(0+m))
   refine⟨_,he,dj.qo ((Below.refl _ w).drew.alloc (by simp) _),(w.heap.size,0),_,_,rfl,.inl (adh _),heap_alloc_new w.drew _,hge,grownCap_le_maxLen _ _ _ _ (by unfold maxLen;omega),?_,fun j x hj =>?_⟩
   ·rw[adX]at hzl
    simp only[aes,aet,List.nil_append,hzl];omega
   ·simp only[ae3,List.take_nil,List.drop_nil,List.nil_append,ae5]at hj
    have hjl:=(adK.1 hj).1
    rw[ad4,aeT (by simpa using hjl)]
    simpa using hj
theorem X2 {α:Type} (E:ig α) (hE:E.size=5):bX Try.prog 70 (Zz 74 E (iO (aI .i64) (fO (aI .i64))) (fun (l:List α) (x:Int×Int)=>Vo l x.1 x.2)) where
 callable:=⟨_,Try.func70,by kernel_rfl,by kernel_rfl⟩
 calls lent ds rk out hg:=by
  obtain⟨pre,l,post,a,r,rfl,rfl,hr,rfl,rfl⟩:=ML hg
  obtain⟨ai,aj⟩:=a
  unfold Vo at hr
  split at hr
  rotate_left
  ·cases hr
  rename_i hcond
  obtain⟨hi0,hij,hjn,hlen⟩:=hcond
  simp only at hi0 hij hjn
  cases hr
  intro w M go u0 vs hM hgoM hz hmp hrow hlv hargs
  have hvs:vs = #[.int .i64 ai,.int .i64 aj]:=by
   have h1:vs.size=2:=hargs.size
   have e0:=UI (hargs.at_ 0 (.int .i64 ai) rfl)
   have e1:=UI (hargs.at_ 1 (.int .i64 aj) rfl)
   apply Array.ext
   ·simp[h1]
   ·intro k h2 h3
    have:k=0∨k=1:=by omega
    rcases this with rfl|rfl
    ·simpa [adm,aek h2] using e0
    ·simpa [adm,aek h2] using e1
  subst hvs
  simp only
  obtain⟨i,rfl⟩:∃i:Nat,ai=(i:Int):=⟨ai.toNat,by omega⟩
  obtain⟨j,rfl⟩:∃j:Nat,aj=(j:Int):=⟨aj.toNat,by omega⟩
  simp only[Int.toNat_natCast]
  have hijn:i<=j:=by omega
  have hjl:j<=l.length:=by omega
  have hnl:(l.take i++l.drop j).length=i+(l.length-j):=by rw[aej,adA,adB];omega
  have hlE:(ae E l).length=l.length*5:=by rw[bL,hE]
  have henc:ae E (l.take i++l.drop j)=(ae E l).take (i*5)++(ae E l).drop (j*5):=by rw[fl,<- hE,ef,nU]
  rcases hlv.2 ⟨0,0,[],false,false,false⟩ rfl rfl with⟨g,o',c,N,t,k0,k1,k2,k3,k4,k5⟩|⟨k0,hn0,A,k1⟩
  ·cases k0
   subst k1
   rw[hE]at k2
   obtain⟨cs,h1,h2,h3⟩:=hrow
   simp only[aej,hlE]at h2
   have hN:N=cs.size:=by
    simp only[World.shape?,h1,adq,Prod.mk.injEq]at k5
    exact k5.2.symm
   have hc63:c<=9223372036854775807:=by unfold maxLen at k4;omega
   by_cases heq:i=j
   ·subst heq
    have hsame:l.take i++l.drop i=l:=ae2 i l
    rw[hsame]
    refine (Ku (some ⟨g.1,o',none⟩) l.length c i w hjl k3 hc63 (fun h=>by cases h)).mono fun e w' ⟨he,hw⟩ =>?_
    subst hw
    refine⟨_,he,⟨rfl,rfl,rfl,adh _,fun k _ _=>rfl⟩,trivial,?_⟩
    by_cases hcc:0<c∨pre.length=0
    ·obtain⟨k6,k7⟩:=k2 hcc
     refine .inl ⟨(g.1,o'),c,cs,rfl,.inr ⟨g,rfl,rfl⟩,h1,k3,k4,by rw[hE];omega,?_,fun k d hk =>?_⟩
     ·simp only;rw[hlE];omega
     ·have hkl:=(adK.1 hk).1
      have:=h3 (pre.length+k) d (by rw[adW (by omega),aex,adV hkl];exact hk)
      simp only
      rw[k6,adC]
      exact⟨this.1,this.2.less fun b hb=>hb.imp id fun h=>⟨g,rfl,h⟩⟩
    ·have:c=0:=by omega
     subst this
     have hl0:l=[]:=aeq (by omega)
     subst hl0
     exact .inr ⟨rfl,rfl,_,rfl⟩
   ·have hlt:i<j:=by omega
    obtain⟨k6,k7⟩:=k2 (.inl (by omega))
    subst k6
    obtain⟨zg,hvals⟩:∃zg:List Value,zg=(List.range (l.length*5)).map fun k=>cs.getD (g.2+(pre.length+k)) undef:=⟨_,rfl⟩
    have hvl:zg.length=l.length*5:=by rw[hvals];simp
    have hvk:∀k,k<l.length*5->zg[k]? = some (cs.getD (g.2+(pre.length+k)) undef):=fun k hk=>by rw[hvals,ade,List.getElem?_range hk];rfl
    have hrel:∀k d,(ae E l)[k]? = some d->aV d=true∧RP w (fun b=>M b∨sO (some g) b) d (cs.getD (g.2+(pre.length+k)) undef):=fun k d hk=>by
     have hkl:=(adK.1 hk).1
     exact h3 (pre.length+k) d (by rw[adW (by omega),aex,adV hkl];exact hk)
    have hcell:∀k v,zg[k]? = some v->w.cell? ⟨g.1,g.2+pre.length+k,none⟩=some v:=fun k v hk=>by
     have hkl:=(adK.1 hk).1
     rw[hvk k (by omega)]at hk
     have:=bu h1 (j:=g.2+pre.length+k) (by omega)
     rw[this,adC]
     exact hk
    have hone:∀v∈zg,v.oneCell'=true:=fun v hv=>by
     obtain⟨k,hk⟩:=adD hv
     have hkl:=(adK.1 hk).1
     rw[hvk k (by omega)]at hk
     obtain⟨p1,p2⟩:=hrel k _ (adu (by omega))
     have:=p2.u5 p1
     rwa [Option.some.inj hk]at this
    refine (Vq g.1 (g.2+pre.length) l.length c i j zg w hvl hcell (fun k=>by simp[World.frozen?,h1]) hone k3 hc63 hlt hjl).mono fun e w' ⟨he,hw⟩ =>?_
    have hzl:=mn (l.length-(i+(l.length-j)))
    have hdl:(zg.drop (j*5)).length=(l.length-j)*5:=by rw[adB,hvl,Nat.sub_mul]
    obtain⟨e1,e2,e3,e4,e5,arr2,e6,e7,e8⟩:=fu g.1 (zg.drop (j*5)) (g.2+pre.length+i*5) w.drew cs h1 (by omega)
    obtain⟨f1,f2,f3,f4,f5,arr3,f6,f7,f8⟩:=fu g.1 (Builtin.zeroCells kY.cells (l.length-(i+(l.length-j)))).toList (g.2+pre.length+(i+(l.length-j))*5) _ arr2 e6 (by omega)
    rw[<- hw]at f1 f2 f3 f4 f5 f6
    have hbey:dj (sO (some g)) w w':=⟨f1.trans e1,f2.trans e2,f3.trans e3,by rw[f4,e4];exact adh _,fun k hk hn=>(f5 k (fun h=>hn ⟨g,rfl,h⟩)).trans (e5 k (fun h=>hn ⟨g,rfl,h⟩))⟩
    refine⟨_,he,hbey,trivial,.inl ⟨(g.1,g.2+pre.length),c,arr3,by rw[hnl],.inr ⟨g,rfl,rfl⟩,f6,by rw[hnl];omega,k4,by rw[hE];simp only;omega,?_,fun k d hk =>?_⟩⟩
    ·simp only;rw[bL,hE,hnl];omega
    ·have hkl:=(adK.1 hk).1
     rw[bL,hE,hnl]at hkl
     rw[henc]at hk
     have hval:∀k':Nat,(ae E l)[k']? = some d->zg[k']? = arr3[g.2+pre.length+k]?->aV d=true∧RP w' (fun b=>M b∨b=g.1) d (arr3.getD (g.2+pre.length+k) undef):=by
      intro k' hk' hv
      have hkl':=(adK.1 hk').1
      obtain⟨p1,p2⟩:=hrel k' d hk'
      rw[hvk k' (by omega)]at hv
      refine⟨p1,?_⟩
      rw[adm,<- hv]
      refine p2.keep fun b q1 q2=>⟨adk q1 hbey.size,?_,hbey.block b q1 (fun hn=>q2 (.inr hn))⟩
      rintro (hb|hb)
      ·exact q2 (.inl hb)
      ·exact q2 (.inr ⟨g,rfl,hb⟩)
     simp only
     by_cases hk1:k<i*5
     ·rw[adV (by rw[adA];omega),adx,if_pos hk1]at hk
      refine hval k hk ?_
      rw[f8,if_neg (by omega),e8,if_neg (by omega),hvk k (by omega),adm,adC,aek (show g.2+(pre.length+k)<cs.size by omega)]
      rfl
     ·rw[adW (by rw[adA];omega),adA,aem (by omega),ady]at hk
      refine hval (j*5+(k-i*5)) hk ?_
      rw[f8,if_neg (by omega),e8,if_pos (by omega),ady]
      congr 1;omega
  ·subst k1
   have hl0:l=[]:=aeq hn0
   subst hl0
   simp only[List.length_nil]at hjl
   obtain rfl:j=0:=by omega
   obtain rfl:i=0:=by omega
   refine (Ku A 0 0 0 w (adh _) (adh _) (by decide) (fun _=>rfl)).mono fun e w' ⟨he,hw⟩ =>?_
   subst hw
   exact⟨_,he,⟨rfl,rfl,rfl,adh _,fun k _ _=>rfl⟩,trivial,.inr ⟨rfl,rfl,_,rfl⟩⟩
end Go.Proofs.Ytchndpjlijbplaa.Am
namespace Go.Proofs.Ytchndpjlijbplaa.P
open Go.RowKit
set_option linter.unusedVariables false
structure al where
 ag:Int
 aa:(List Int)
structure ak where
 aL:al
 aM:al
structure dr where
 cY:Int
 ko:Int
 bg:ak
structure bW where
 aG:Int
 av:(List dr)
structure dC where
 kp:Int
 dE:ak
structure aw where
 aQ:ak
 bl:(List dC)
def tW (p0:(List Int)):(Int)->Option ((Int)⊕((Int)))
 | s3a =>
  if decide (s3a>0) then
   (P.idx p0 (IntKind.i64.wrap (s3a-1))).bind fun x6 =>
   if (x6==0) then
    some (.inl (IntKind.i64.wrap (s3a-1)))
   else
    some (.inr s3a)
  else
   some (.inr s3a)
def gz (p0:(List Int)):Option ((List Int)) :=
 (aX (tW p0) (p0.length:Int)).bind fun s3ax =>
 (AQ p0 0 s3ax).bind fun x8 =>
 (k9 8 [] x8).bind fun _ =>
 some x8
def gx (p0:Int) (p1:(List Int)):Option (al) :=
 (gz p1).bind fun r1 =>
 if ((r1.length:Int)==0) then
  some (al.mk 0 ([]))
 else
  some (al.mk p0 r1)
def vg:(Int×(List Int))->Option ((Int×(List Int))⊕(((List Int))))
 | (s0b,l4b) =>
  if (s0b != 0) then
   (yZ .i64 s0b 1048576).bind fun x17 =>
   if decide (x17<0) then
    (k9 8 l4b [IntKind.i64.wrap (0-x17)]).bind fun x20 =>
    (yJ .i64 s0b 1048576).bind fun x22 =>
    some (.inl (x22,x20))
   else
    (k9 8 l4b [x17]).bind fun x24 =>
    (yJ .i64 s0b 1048576).bind fun x26 =>
    some (.inl (x26,x24))
  else
   some (.inr l4b)
def sa (p0:Int):Option (al) :=
 if (p0==0) then
  some (al.mk 0 ([]))
 else
  (if decide (p0<0) then
   some (-1)
  else
   some 1).bind fun s3j1 =>
  (aX (vg) (p0,[])).bind fun l4bx =>
  (gx s3j1 l4bx).bind fun r28 =>
  some r28
def nP (p0:al):(Int)->Option ((Int)⊕((Unit)⊕(Bool)))
 | s3a =>
  if decide (s3a<(p0.aa.length:Int)) then
   (P.idx p0.aa s3a).bind fun x7 =>
   if decide (x7<0) then
    some (.inr (.inr false))
   else
    if decide (x7>=1048576) then
     some (.inr (.inr false))
    else
     some (.inl (IntKind.i64.wrap (s3a+1)))
  else
   some (.inr (.inl ()))
def dp (p0:al):Option (Bool) :=
 (aX (nP p0) 0).bind fun q=>match q with
 | (.inl _) =>
  (if decide (p0.ag<(-1)) then
   some true
  else
   if decide (p0.ag>1) then
    some true
   else
    some (!(((p0.aa.length:Int)==0)==(p0.ag==0)))).bind fun s44j2 =>
  if s44j2 then
   some false
  else
   if ((p0.aa.length:Int)==0) then
    some true
   else
    (P.idx p0.aa (IntKind.i64.wrap ((p0.aa.length:Int)-1))).bind fun x13 =>
    some (x13 != 0)
 | (.inr ra) =>
  some ra
def vf (p0:al):Option (al) :=
 (dp p0).bind fun r1 =>
 if (!r1) then
  some (al.mk 0 ([]))
 else
  (gx (IntKind.i64.wrap (0-p0.ag)) p0.aa).bind fun r3 =>
  some r3
def gf (p0:(List Int)) (p1:Int):Option (Int) :=
 if decide (p1<(p0.length:Int)) then
  (P.idx p0 p1).bind fun x2 =>
  some x2
 else
  some 0
def nS (p0:(List Int)) (p1:(List Int)) (s6a:Int):(Int×Int×(List Int))->Option ((Int×Int×(List Int))⊕(((List Int))))
 | (s7e,s8e,l5e) =>
  (if decide (s8e<(p1.length:Int)) then
   some true
  else
   some (decide (s7e>0))).bind fun s29j7 =>
  if s29j7 then
   (P.idx l5e (IntKind.i64.wrap (s6a+s8e))).bind fun x43 =>
   (P.idx p0 s6a).bind fun x44 =>
   (gf p1 s8e).bind fun r45 =>
   (yZ .i64 (IntKind.i64.wrap ((IntKind.i64.wrap (x43+(IntKind.i64.wrap (x44*r45))))+s7e)) 1048576).bind fun x46 =>
   (yJ .i64 (IntKind.i64.wrap ((IntKind.i64.wrap (x43+(IntKind.i64.wrap (x44*r45))))+s7e)) 1048576).bind fun x49 =>
   some (.inl (x49,IntKind.i64.wrap (s8e+1),(l5e.set (IntKind.i64.wrap (s6a+s8e)).toNat x46)))
  else
   some (.inr l5e)
def nR (p0:(List Int)) (p1:(List Int)):(Int×(List Int))->Option ((Int×(List Int))⊕(((List Int))))
 | (s6a,l5a) =>
  if decide (s6a<(p0.length:Int)) then
   (aX (nS p0 p1 s6a) (0,0,l5a)).bind fun l5ex =>
   some (.inl (IntKind.i64.wrap (s6a+1),l5ex))
  else
   some (.inr l5a)
def kS (p0:(List Int)) (p1:(List Int)):Option ((List Int)) :=
 (D6 8 (IntKind.i64.wrap ((p0.length:Int)+(p1.length:Int))) (IntKind.i64.wrap ((p0.length:Int)+(p1.length:Int))) 0).bind fun x1 =>
 (aX (nR p0 p1) (0,x1)).bind fun l5ax =>
 (gz l5ax).bind fun r52 =>
 some r52
def pN (p0:(List Int)) (p1:(List Int)):(Int)->Option ((Int)⊕((Unit)⊕(Bool)))
 | s5a =>
  if decide (s5a>=0) then
   (gf p0 s5a).bind fun r7 =>
   (gf p1 s5a).bind fun r8 =>
   if (r7 != r8) then
    some (.inr (.inr (decide (r7<r8))))
   else
    some (.inl (IntKind.i64.wrap (s5a-1)))
  else
   some (.inr (.inl ()))
def m0 (p0:(List Int)) (p1:(List Int)):Option (Bool) :=
 (aX (pN p0 p1) (IntKind.i64.wrap ((if (p1.length:Int)>(p0.length:Int) then (p1.length:Int) else (p0.length:Int))-1))).bind fun q=>match q with
 | (.inl _) =>
  some false
 | (.inr ra) =>
  some ra
def nQ (p0:(List Int)) (p1:(List Int)):(Int×Int×(List Int))->Option ((Int×Int×(List Int))⊕(((List Int))))
 | (s6a,s7a,l5a) =>
  if decide (s7a<(p0.length:Int)) then
   (P.idx p0 s7a).bind fun x11 =>
   (gf p1 s7a).bind fun r12 =>
   if decide ((IntKind.i64.wrap ((IntKind.i64.wrap (x11-r12))-s6a))<0) then
    (k9 8 l5a [IntKind.i64.wrap ((IntKind.i64.wrap ((IntKind.i64.wrap (x11-r12))-s6a))+1048576)]).bind fun x14 =>
    some (.inl (1,IntKind.i64.wrap (s7a+1),x14))
   else
    (k9 8 l5a [IntKind.i64.wrap ((IntKind.i64.wrap (x11-r12))-s6a)]).bind fun x16 =>
    some (.inl (0,IntKind.i64.wrap (s7a+1),x16))
  else
   some (.inr l5a)
def kR (p0:(List Int)) (p1:(List Int)):Option ((List Int)) :=
 (aX (nQ p0 p1) (0,0,[])).bind fun l5ax =>
 (gz l5ax).bind fun r18 =>
 some r18
def m6 (p1:(List Int)) (r34:(List Int)):(Int×Int)->Option ((Int×Int)⊕((Int)))
 | (s9c,s10c) =>
  if decide ((IntKind.i64.wrap (s10c-s9c))>1) then
   (yJ .i64 (IntKind.i64.wrap (s9c+s10c)) 2).bind fun x44 =>
   (kS p1 ([x44])).bind fun r47 =>
   (m0 r34 r47).bind fun r48 =>
   if r48 then
    some (.inl (s9c,x44))
   else
    some (.inl (x44,s10c))
  else
   some (.inr s9c)
def pO (p0:(List Int)) (p1:(List Int)):((List Int)×Int×(List Int))->Option (((List Int)×Int×(List Int))⊕(((List Int)×(List Int))))
 | (s7a,s8a,l6a) =>
  if decide (s8a>=0) then
   (P.idx p0 s8a).bind fun x31 =>
   (k9 8 [x31] s7a).bind fun x32 =>
   (gz x32).bind fun r34 =>
   (aX (m6 p1 r34) (0,1048576)).bind fun s9cx =>
   (P.idx l6a s8a).bind fun x50 =>
   (gz ([s9cx])).bind fun r53 =>
   (kS p1 r53).bind fun r54 =>
   (kR r34 r54).bind fun r55 =>
   some (.inl (r55,IntKind.i64.wrap (s8a-1),(l6a.set (s8a).toNat s9cx)))
  else
   some (.inr (s7a,l6a))
def m5 (p0:(List Int)) (p1:(List Int)):Option ((List Int)×(List Int)) :=
 (D6 8 (p0.length:Int) (p0.length:Int) 0).bind fun x1 =>
 (aX (pO p0 p1) ([],IntKind.i64.wrap ((p0.length:Int)-1),x1)).bind fun q=>match q with
 | (s7ax,l6ax) =>
  (gz l6ax).bind fun r56 =>
  some (r56,s7ax)
def oQ:((List Int)×(List Int))->Option (((List Int)×(List Int))⊕(((List Int))))
 | (s6b,s7b) =>
  if decide ((s7b.length:Int)>0) then
   (m5 s6b s7b).bind fun r8 =>
   some (.inl (s7b,r8.2))
  else
   some (.inr s6b)
def pM (p0:al) (p1:al):Option (al×Int) :=
 (dp p0).bind fun r1 =>
 (if (!r1) then
  some true
 else
  (dp p1).bind fun r11 =>
  some (!r11)).bind fun s17j1 =>
 if s17j1 then
  some ((al.mk 0 ([])),1)
 else
  (aX (oQ) (p0.aa,p1.aa)).bind fun s6bx =>
  (gx 1 s6bx).bind fun r9 =>
  some (r9,0)
def Al (p0:(List Int)) (p1:(List Int)):(Int×Int×(List Int))->Option ((Int×Int×(List Int))⊕(((List Int))))
 | (s6a,s7a,l5a) =>
  (if decide (s7a<(p0.length:Int)) then
   some true
  else
   if decide (s7a<(p1.length:Int)) then
    some true
   else
    some (decide (s6a>0))).bind fun s22j3 =>
  if s22j3 then
   (gf p0 s7a).bind fun r16 =>
   (gf p1 s7a).bind fun r17 =>
   (yZ .i64 (IntKind.i64.wrap ((IntKind.i64.wrap (r16+r17))+s6a)) 1048576).bind fun x18 =>
   (k9 8 l5a [x18]).bind fun x20 =>
   (yJ .i64 (IntKind.i64.wrap ((IntKind.i64.wrap (r16+r17))+s6a)) 1048576).bind fun x22 =>
   some (.inl (x22,IntKind.i64.wrap (s7a+1),x20))
  else
   some (.inr l5a)
def tV (p0:(List Int)) (p1:(List Int)):Option ((List Int)) :=
 (aX (Al p0 p1) (0,0,[])).bind fun l5ax =>
 (gz l5ax).bind fun r26 =>
 some r26
def ve (p0:al) (p1:al):Option (al×al×Int) :=
 (dp p0).bind fun r1 =>
 (if (!r1) then
  some true
 else
  (dp p1).bind fun r17 =>
  some (!r17)).bind fun s16j1 =>
 if s16j1 then
  some ((al.mk 0 ([])),(al.mk 0 ([])),1)
 else
  if (p1.ag==0) then
   some ((al.mk 0 ([])),(al.mk 0 ([])),15)
  else
   (m5 p0.aa p1.aa).bind fun r5 =>
   (if decide ((IntKind.i64.wrap (p0.ag*p1.ag))>=0) then
    some true
   else
    some ((r5.2.length:Int)==0)).bind fun s42j2 =>
   if s42j2 then
    (gx (IntKind.i64.wrap (p0.ag*p1.ag)) r5.1).bind fun r8 =>
    (gx p0.ag r5.2).bind fun r9 =>
    some (r8,r9,0)
   else
    (tV r5.1 ([1])).bind fun r11 =>
    (gx (-1) r11).bind fun r12 =>
    (kR p1.aa r5.2).bind fun r13 =>
    (gx p1.ag r13).bind fun r14 =>
    some (r12,r14,0)
def xZ (p0:al) (p1:al):Option (ak×Int) :=
 (dp p0).bind fun r1 =>
 (if (!r1) then
  some true
 else
  (dp p1).bind fun r13 =>
  some (!r13)).bind fun s21j1 =>
 if s21j1 then
  some ((ak.mk (al.mk 0 ([])) (al.mk 0 ([]))),1)
 else
  if (p1.ag==0) then
   some ((ak.mk (al.mk 0 ([])) (al.mk 0 ([]))),15)
  else
   (if decide (p1.ag<0) then
    (vf p0).bind fun r10 =>
    (vf p1).bind fun r11 =>
    some (r10.ag,r10.aa,r11.ag,r11.aa)
   else
    some (p0.ag,p0.aa,p1.ag,p1.aa)).bind fun q=>match q with
   | (r2_0j2,r2_1j2,r3_0j2,r3_1j2) =>
    (pM (al.mk r2_0j2 r2_1j2) (al.mk r3_0j2 r3_1j2)).bind fun r6 =>
    (ve (al.mk r2_0j2 r2_1j2) r6.1).bind fun r7 =>
    (ve (al.mk r3_0j2 r3_1j2) r6.1).bind fun r8 =>
    some ((ak.mk r7.1 r8.1),0)
def y6 (p0:Int) (p1:Int):Option (ak×Int) :=
 (sa p0).bind fun r1 =>
 (sa p1).bind fun r2 =>
 (xZ r1 r2).bind fun r3 =>
 some (r3.1,r3.2)
def jY (p0:Int) (p1:Int) (p2:Int) (p3:Int):Option (dr) :=
 (y6 p2 p3).bind fun r1 =>
 some (dr.mk p0 p1 r1.1)
def xY (p0:Int):Option (ak) :=
 (y6 p0 1).bind fun r1 =>
 some r1.1
def zW (p0:(List Int)):(Int×(List ak))->Option ((Int×(List ak))⊕(((List ak))))
 | (s4a,l3a) =>
  if decide (s4a<(p0.length:Int)) then
   (P.idx p0 s4a).bind fun x8 =>
   (xY x8).bind fun r9 =>
   (k9 64 l3a [r9]).bind fun x10 =>
   some (.inl (IntKind.i64.wrap (s4a+1),x10))
  else
   some (.inr l3a)
def jX (p0:(List Int)):Option ((List ak)) :=
 (aX (zW p0) (0,[])).bind fun l3ax =>
 some l3ax
def gE (p0:Int) (p1:Int) (p2:Int):Option (Bool) :=
 if decide (p0>=p1) then
  some (decide (p0<=p2))
 else
  some false
def nB (p0:al):(Int)->Option ((Int)⊕((Unit)⊕(Bool)))
 | s12a =>
  if decide (s12a<(p0.aa.length:Int)) then
   (P.idx p0.aa s12a).bind fun x7 =>
   if decide (x7<0) then
    some (.inr (.inr false))
   else
    if decide (x7>1048575) then
     some (.inr (.inr false))
    else
     some (.inl (IntKind.i64.wrap (s12a+1)))
  else
   some (.inr (.inl ()))
def cl (p0:al):Option (Bool) :=
 (aX (nB p0) 0).bind fun q=>match q with
 | (.inl _) =>
  if ((p0.aa.length:Int)==0) then
   some (p0.ag==0)
  else
   if (p0.ag==1) then
    (P.idx p0.aa (IntKind.i64.wrap ((p0.aa.length:Int)-1))).bind fun x12 =>
    some (x12 != 0)
   else
    if (p0.ag==(-1)) then
     (P.idx p0.aa (IntKind.i64.wrap ((p0.aa.length:Int)-1))).bind fun x14 =>
     some (x14 != 0)
    else
     some false
 | (.inr ra) =>
  some ra
def dJ (p0:Bool) (p1:al):Option (al×Int) :=
 if (!p0) then
  some ((al.mk 0 ([])),1)
 else
  some (p1,0)
def cB (p0:(List Int)):Option (List Int):=k9 8 [] p0
def l7 (p0:Int):Option (Bool) :=
 some (p0 != p0)
def ej (p0:Int) (p1:Int):Option (Int) :=
 (l7 p0).bind fun r1 =>
 (l7 p1).bind fun r2 =>
 if r1 then
  if r2 then
   some 0
  else
   some (-1)
 else
  if r2 then
   some 1
  else
   if decide (p0<p1) then
    some (-1)
   else
    if decide (p0>p1) then
     some 1
    else
     some 0
def ll (p0:(List Int)) (p1:(List Int)):(Int)->Option ((Int)⊕((Unit)⊕(Int)))
 | s5a =>
  if decide (s5a>=0) then
   (P.idx p0 s5a).bind fun x10 =>
   (P.idx p1 s5a).bind fun x11 =>
   if (x10 != x11) then
    (ej x10 x11).bind fun r13 =>
    some (.inr (.inr r13))
   else
    some (.inl (IntKind.i64.wrap (s5a-1)))
  else
   some (.inr (.inl ()))
def eM (p0:(List Int)) (p1:(List Int)):Option (Int) :=
 if ((p0.length:Int) != (p1.length:Int)) then
  (ej (p0.length:Int) (p1.length:Int)).bind fun r2 =>
  some r2
 else
  (aX (ll p0 p1) (IntKind.i64.wrap ((p0.length:Int)-1))).bind fun q=>match q with
  | (.inl _) =>
   some 0
  | (.inr ra) =>
   some ra
def kG (p0:(List Int)):(Int)->Option ((Int)⊕((Int)))
 | s3a =>
  if decide (s3a>0) then
   (P.idx p0 (IntKind.i64.wrap (s3a-1))).bind fun x6 =>
   if (x6==0) then
    some (.inl (IntKind.i64.wrap (s3a-1)))
   else
    some (.inr s3a)
  else
   some (.inr s3a)
def dt (p0:(List Int)):Option ((List Int)) :=
 (aX (kG p0) (p0.length:Int)).bind fun s3ax =>
 (AQ p0 0 s3ax).bind fun x8 =>
 some x8
def nD (p0:(List Int)) (p1:Int):(Int×Int×(List Int))->Option ((Int×Int×(List Int))⊕((Int×(List Int))))
 | (s7a,s8a,l6a) =>
  if decide (s8a>=0) then
   (EE .i64 s7a 20).bind fun x15 =>
   (P.idx p0 s8a).bind fun x17 =>
   (yJ .i64 (jV .or .i64 x15 x17) p1).bind fun x18 =>
   (P.idx l6a s8a).bind fun x20 =>
   (yZ .i64 (jV .or .i64 x15 x17) p1).bind fun x22 =>
   some (.inl (x22,IntKind.i64.wrap (s8a-1),(l6a.set (s8a).toNat x18)))
  else
   some (.inr (s7a,l6a))
def kF (p0:(List Int)) (p1:Int):Option ((List Int)×Int) :=
 (D6 8 (p0.length:Int) (p0.length:Int) 0).bind fun x1 =>
 (aX (nD p0 p1) (0,IntKind.i64.wrap ((p0.length:Int)-1),x1)).bind fun q=>match q with
 | (s7ax,l6ax) =>
  (dt l6ax).bind fun r24 =>
  some (r24,s7ax)
def q8 (p1:(List Int)) (s20a:Int) (x22:Int):(Int×Int×(List Int))->Option ((Int×Int×(List Int))⊕((Int×(List Int))))
 | (s8c,s27c,l5c) =>
  if decide (s27c<(p1.length:Int)) then
   (P.idx p1 s27c).bind fun x31 =>
   (P.idx l5c (IntKind.i64.wrap (s20a+s27c))).bind fun x32 =>
   (wU .i64 (IntKind.i64.wrap ((IntKind.i64.wrap (x32+(IntKind.i64.wrap (x22*x31))))+s8c)) 20).bind fun x33 =>
   some (.inl (x33,IntKind.i64.wrap (s27c+1),(l5c.set (IntKind.i64.wrap (s20a+s27c)).toNat (jV .and .i64 (IntKind.i64.wrap ((IntKind.i64.wrap (x32+(IntKind.i64.wrap (x22*x31))))+s8c)) 1048575))))
  else
   some (.inr (s8c,l5c))
def qZ (p0:(List Int)) (p1:(List Int)):(Int×(List Int))->Option ((Int×(List Int))⊕(((List Int))))
 | (s20a,l5a) =>
  if decide (s20a<(p0.length:Int)) then
   (P.idx p0 s20a).bind fun x22 =>
   (aX (q8 p1 s20a x22) (0,0,l5a)).bind fun q=>match q with
   | (s8cx,l5cx) =>
    (P.idx l5cx (IntKind.i64.wrap (s20a+(p1.length:Int)))).bind fun x36 =>
    some (.inl (IntKind.i64.wrap (s20a+1),(l5cx.set (IntKind.i64.wrap (s20a+(p1.length:Int))).toNat (IntKind.i64.wrap (x36+s8cx)))))
  else
   some (.inr l5a)
def nC (p0:(List Int)) (p1:(List Int)):Option ((List Int)) :=
 (D6 8 (IntKind.i64.wrap ((p0.length:Int)+(p1.length:Int))) (IntKind.i64.wrap ((p0.length:Int)+(p1.length:Int))) 0).bind fun x1 =>
 (aX (qZ p0 p1) (0,x1)).bind fun l5ax =>
 (dt l5ax).bind fun r39 =>
 some r39
def j7 (p0:(List Int)) (p1:(List Int)) (p2:Int):(Int×Int×(List Int))->Option ((Int×Int×(List Int))⊕((Int×(List Int))))
 | (s7a,s14a,l0a) =>
  if decide (s14a<((p0).length:Int)) then
   (P.idx l0a s14a).bind fun x11 =>
   (if decide (s14a<(p1.length:Int)) then
    (P.idx p1 s14a).bind fun x17 =>
    some (IntKind.i64.wrap ((IntKind.i64.wrap (x11-s7a))-(IntKind.i64.wrap (p2*x17))))
   else
    some (IntKind.i64.wrap (x11-s7a))).bind fun s9j3 =>
   (wU .i64 s9j3 20).bind fun x14 =>
   some (.inl (IntKind.i64.wrap (0-x14),IntKind.i64.wrap (s14a+1),(l0a.set (s14a).toNat (jV .and .i64 s9j3 1048575))))
  else
   some (.inr (s7a,l0a))
def j8 (p1:(List Int)) (l0ax:(List Int)):(Int×Int×(List Int))->Option ((Int×Int×(List Int))⊕(((List Int))))
 | (s10d,s49d,l0d) =>
  if decide (s49d<((l0ax).length:Int)) then
   (P.idx l0d s49d).bind fun x29 =>
   (if decide (s49d<(p1.length:Int)) then
    (P.idx p1 s49d).bind fun x35 =>
    some (IntKind.i64.wrap ((IntKind.i64.wrap (s10d+x29))+x35))
   else
    some (IntKind.i64.wrap (s10d+x29))).bind fun s10j6 =>
   (wU .i64 s10j6 20).bind fun x32 =>
   some (.inl (x32,IntKind.i64.wrap (s49d+1),(l0d.set (s49d).toNat (jV .and .i64 s10j6 1048575))))
  else
   some (.inr l0d)
def oo (p0:(List Int)) (p1:(List Int)) (p2:Int):Option ((List Int)×(Int)) :=
 (aX (j7 p0 p1 p2) (0,0,p0)).bind fun q=>match q with
 | (s7ax,l0ax) =>
  if (s7ax==0) then
   some (l0ax,p2)
  else
   (aX (j8 p1 l0ax) (0,0,l0ax)).bind fun l0dx =>
   some (l0dx,IntKind.i64.wrap (p2-1))
def fc (p0:(List Int)) (p1:(List Int)) (p2:Int):Option ((List Int)×(Int)):=(oo p0 p1 p2).bind fun r=>if r.1.length=p0.length then some r else none
theorem yT {p0:(List Int)} {p1:(List Int)} {p2:Int} {r:(List Int)×(Int)} (h:fc p0 p1 p2=some r):r.1.length=p0.length:=by
 unfold fc at h
 obtain⟨q,hq,h⟩:=ah h
 split at h
 ·cases h;assumption
 ·cases h
def qW (p1:(List Int)):(Int)->Option ((Int)⊕((Int)))
 | s8a =>
  (P.idx p1 (IntKind.i64.wrap ((p1.length:Int)-1))).bind fun x12 =>
  if decide ((IntKind.i64.wrap (x12*s8a))<524288) then
   some (.inl (IntKind.i64.wrap (s8a*2)))
  else
   some (.inr s8a)
def qY (r19:(List Int)) (s13c:Int) (l9c:(List Int)) (x64:Int):(Int×Int)->Option ((Int×Int)⊕((Int)))
 | (s15g,s16g) =>
  (if decide (s15g>=1048576) then
   some true
  else
   if decide (s16g<1048576) then
    (P.idx r19 (IntKind.i64.wrap (((r19).length:Int)-2))).bind fun x83 =>
    (EE .i64 s16g 20).bind fun x84 =>
    (P.idx l9c (IntKind.i64.wrap ((IntKind.i64.wrap (s13c+((r19).length:Int)))-2))).bind fun x86 =>
    some (decide ((IntKind.i64.wrap (s15g*x83))>(jV .or .i64 x84 x86)))
   else
    some false).bind fun s137j9 =>
  if s137j9 then
   some (.inl (IntKind.i64.wrap (s15g-1),IntKind.i64.wrap (s16g+x64)))
  else
   some (.inr s15g)
def qX (r19:(List Int)):(Int×(List Int)×(List Int))->Option ((Int×(List Int)×(List Int))⊕(((List Int)×(List Int))))
 | (s13c,l9c,l12c) =>
  if decide (s13c>=0) then
   (P.idx l9c (IntKind.i64.wrap (s13c+((r19).length:Int)))).bind fun x60 =>
   (EE .i64 x60 20).bind fun x61 =>
   (P.idx l9c (IntKind.i64.wrap ((IntKind.i64.wrap (s13c+((r19).length:Int)))-1))).bind fun x63 =>
   (P.idx r19 (IntKind.i64.wrap (((r19).length:Int)-1))).bind fun x64 =>
   (yJ .i64 (jV .or .i64 x61 x63) x64).bind fun x65 =>
   (yZ .i64 (jV .or .i64 x61 x63) x64).bind fun x67 =>
   (aX (qY r19 s13c l9c x64) (x65,x67)).bind fun s15gx =>
   (AQ l9c s13c (IntKind.i64.wrap ((IntKind.i64.wrap (s13c+((r19).length:Int)))+1))).bind fun x87 =>
   (fc x87 r19 s15gx).bind fun r90 =>
   (P.idx l12c s13c).bind fun x92 =>
   some (.inl (IntKind.i64.wrap (s13c-1),(l9c.take (s13c).toNat++(r90.1++l9c.drop (IntKind.i64.wrap ((IntKind.i64.wrap (s13c+((r19).length:Int)))+1)).toNat)),(l12c.set (s13c).toNat r90.2)))
  else
   some (.inr (l9c,l12c))
def pc (p0:(List Int)) (p1:(List Int)):Option ((List Int)×(List Int)) :=
 (eM p0 p1).bind fun r1 =>
 if decide (r1<0) then
  (cB p0).bind fun r3 =>
  some ([],r3)
 else
  if ((p1.length:Int)==1) then
   (P.idx p1 0).bind fun x5 =>
   (kF p0 x5).bind fun r6 =>
   (dt ([r6.2])).bind fun r8 =>
   some (r6.1,r8)
  else
   (aX (qW p1) 1).bind fun s8ax =>
   (nC p0 ([s8ax])).bind fun r15 =>
   (k9 8 r15 [0]).bind fun x16 =>
   (nC p1 ([s8ax])).bind fun r19 =>
   (if (((x16).length:Int)==(p0.length:Int)) then
    (k9 8 x16 [0]).bind fun x98 =>
    some x98
   else
    some x16).bind fun l9j2 =>
   (D6 8 (IntKind.i64.wrap (((l9j2).length:Int)-((r19).length:Int))) (IntKind.i64.wrap (((l9j2).length:Int)-((r19).length:Int))) 0).bind fun x21 =>
   (aX (qX r19) (IntKind.i64.wrap (((x21).length:Int)-1),l9j2,x21)).bind fun q=>match q with
   | (l9cx,l12cx) =>
    (dt l9cx).bind fun r94 =>
    (kF r94 s8ax).bind fun r95 =>
    (dt l12cx).bind fun r96 =>
    some (r96,r95.1)
def cm (p0:Int) (p1:(List Int)):Option (al) :=
 (dt p1).bind fun r1 =>
 if ((r1.length:Int)==0) then
  some (al.mk 0 ([]))
 else
  some (al.mk p0 r1)
def og:((List Int)×(List Int))->Option (((List Int)×(List Int))⊕(((List Int))))
 | (s6b,s7b) =>
  if decide ((s7b.length:Int)>0) then
   (pc s6b s7b).bind fun r11 =>
   some (.inl (s7b,r11.2))
  else
   some (.inr s6b)
def nA (p0:al) (p1:al):Option (al×Int) :=
 (cl p0).bind fun r1 =>
 (if (!r1) then
  some true
 else
  (cl p1).bind fun r16 =>
  some (!r16)).bind fun s17j1 =>
 if s17j1 then
  (dJ false (al.mk 0 ([]))).bind fun r5 =>
  some (r5.1,r5.2)
 else
  (cB p0.aa).bind fun r6 =>
  (aX (og) (r6,p1.aa)).bind fun s6bx =>
  (cB s6bx).bind fun r12 =>
  (cm 1 r12).bind fun r13 =>
  (dJ true r13).bind fun r14 =>
  some (r14.1,r14.2)
def qU (p0:al):(Int×Int)->Option ((Int×Int)⊕((Int)⊕(Int×Bool)))
 | (s4b,s19b) =>
  if decide (s19b<(p0.aa.length:Int)) then
   (P.idx p0.aa s19b).bind fun x13 =>
   (if (s19b==3) then
    some (decide (x13>8))
   else
    some false).bind fun s29j4 =>
   if s29j4 then
    some (.inr (.inr (0,false)))
   else
    (EE .u64 (IntKind.u64.wrap x13) (IntKind.i64.wrap (20*s19b))).bind fun x16 =>
    some (.inl (jV .or .u64 s4b x16,IntKind.i64.wrap (s19b+1)))
  else
   some (.inr (.inl s4b))
def qT (p0:al):Option (Int×Bool) :=
 (cl p0).bind fun r1 =>
 (if (!r1) then
  some true
 else
  some (decide ((p0.aa.length:Int)>4))).bind fun s15j1 =>
 if s15j1 then
  some (0,false)
 else
  (aX (qU p0) (0,0)).bind fun q=>match q with
  | (.inl s4bx) =>
   (if decide (p0.ag<0) then
    some (decide (s4bx<=9223372036854775808))
   else
    some false).bind fun s38j5 =>
   if s38j5 then
    some (IntKind.i64.wrap (IntKind.u64.wrap (0-s4bx)),true)
   else
    if decide (p0.ag>=0) then
     if decide (s4bx<9223372036854775808) then
      some (IntKind.i64.wrap s4bx,true)
     else
      some (0,false)
    else
     some (0,false)
  | (.inr rb) =>
   some rb
def oG (p0:al):Option (Bool) :=
 (qT p0).bind fun r1 =>
 if r1.2 then
  some (r1.1==1)
 else
  some false
def b7 (p0:ak):Option (Bool) :=
 (cl p0.aL).bind fun r1 =>
 (if (!r1) then
  some true
 else
  (cl p0.aM).bind fun r8 =>
  if (!r8) then
   some true
  else
   some (p0.aM.ag != 1)).bind fun s20j1 =>
 if s20j1 then
  some false
 else
  (nA p0.aL p0.aM).bind fun r4 =>
  if (r4.2==0) then
   (oG r4.1).bind fun r6 =>
   some r6
  else
   some false
def iG (p0:ak):Option (Int) :=
 (b7 p0).bind fun r1 =>
 if (!r1) then
  some 0
 else
  some p0.aL.ag
def uB (p0:(List Int)):(Int)->Option ((Int)⊕((Unit)⊕(Int)))
 | s8a =>
  if decide (s8a<(p0.length:Int)) then
   (P.idx p0 s8a).bind fun x6 =>
   if (x6 != 0) then
    some (.inr (.inr x6))
   else
    some (.inl (IntKind.i64.wrap (s8a+1)))
  else
   some (.inr (.inl ()))
def tn (p0:(List Int)):Option (Int) :=
 (aX (uB p0) 0).bind fun q=>match q with
 | (.inl _) =>
  some 0
 | (.inr ra) =>
  some ra
def ku (p0:dr) (p1:dr):Option (Int) :=
 (ej p0.cY p1.cY).bind fun r1 =>
 (ej p0.ko p1.ko).bind fun r2 =>
 (tn ([r1,r2])).bind fun r4 =>
 some r4
def uy:(Int×(List Int))->Option ((Int×(List Int))⊕(((List Int))))
 | (s4b,l5b) =>
  if decide (s4b>0) then
   (k9 8 l5b [IntKind.i64.wrap (jV .and .u64 s4b 1048575)]).bind fun x9 =>
   (wU .u64 s4b 20).bind fun x11 =>
   some (.inl (x11,x9))
  else
   some (.inr l5b)
def s9 (p0:Int):Option (al) :=
 (if decide (p0<0) then
  some ((-1),IntKind.u64.wrap (0-(IntKind.u64.wrap p0)))
 else
  some (1,IntKind.u64.wrap p0)).bind fun q=>match q with
 | (s3j1,s4j1) =>
  (aX (uy) (s4j1,[])).bind fun l5bx =>
  (cm s3j1 l5bx).bind fun r13 =>
  some r13
def gS (p0:Int):Option (ak) :=
 (s9 p0).bind fun r1 =>
 (s9 1).bind fun r2 =>
 some (ak.mk r1 r2)
def mr (p0:al):Option (al) :=
 (cl p0).bind fun r1 =>
 if (!r1) then
  some (al.mk 0 ([]))
 else
  (cB p0.aa).bind fun r3 =>
  (cm (IntKind.i64.wrap (0-p0.ag)) r3).bind fun r4 =>
  some r4
def qV (p0:al) (p1:al):Option (al×Int) :=
 (cl p0).bind fun r1 =>
 (if (!r1) then
  some true
 else
  (cl p1).bind fun r10 =>
  some (!r10)).bind fun s13j1 =>
 if s13j1 then
  (dJ false (al.mk 0 ([]))).bind fun r5 =>
  some (r5.1,r5.2)
 else
  (nC p0.aa p1.aa).bind fun r6 =>
  (cm (IntKind.i64.wrap (p0.ag*p1.ag)) r6).bind fun r7 =>
  (dJ true r7).bind fun r8 =>
  some (r8.1,r8.2)
def b8 (p0:al) (p1:al):Option (al) :=
 (qV p0 p1).bind fun r1 =>
 some r1.1
def oh (s0j1:(List Int)) (s1j1:(List Int)):(Int×Int×(List Int))->Option ((Int×Int×(List Int))⊕((Int×(List Int))))
 | (s6b,s22b,l5b) =>
  if decide (s22b<(s0j1.length:Int)) then
   (P.idx s0j1 s22b).bind fun x15 =>
   (if decide (s22b<(s1j1.length:Int)) then
    (P.idx s1j1 s22b).bind fun x22 =>
    some (IntKind.i64.wrap ((IntKind.i64.wrap (s6b+x15))+x22))
   else
    some (IntKind.i64.wrap (s6b+x15))).bind fun s6j4 =>
   (P.idx l5b s22b).bind fun x17 =>
   (wU .i64 s6j4 20).bind fun x19 =>
   some (.inl (x19,IntKind.i64.wrap (s22b+1),(l5b.set (s22b).toNat (jV .and .i64 s6j4 1048575))))
  else
   some (.inr (s6b,l5b))
def pb (p0:(List Int)) (p1:(List Int)):Option ((List Int)) :=
 (if decide ((p0.length:Int)<(p1.length:Int)) then
  some (p1,p0)
 else
  some (p0,p1)).bind fun q=>match q with
 | (s0j1,s1j1) =>
  (D6 8 (IntKind.i64.wrap ((s0j1.length:Int)+1)) (IntKind.i64.wrap ((s0j1.length:Int)+1)) 0).bind fun x2 =>
  (aX (oh s0j1 s1j1) (0,0,x2)).bind fun q=>match q with
  | (s6bx,l5bx) =>
   (P.idx l5bx (s0j1.length:Int)).bind fun x23 =>
   (dt (l5bx.set ((s0j1.length:Int)).toNat s6bx)).bind fun r26 =>
   some r26
def q9 (p1:(List Int)) (r1:(List Int)):(Int×Int×(List Int))->Option ((Int×Int×(List Int))⊕(((List Int))))
 | (s6a,s13a,l5a) =>
  if decide (s13a<((r1).length:Int)) then
   (P.idx l5a s13a).bind fun x12 =>
   (if decide (s13a<(p1.length:Int)) then
    (P.idx p1 s13a).bind fun x18 =>
    some (IntKind.i64.wrap ((IntKind.i64.wrap (x12-s6a))-x18))
   else
    some (IntKind.i64.wrap (x12-s6a))).bind fun s8j3 =>
   (wU .i64 s8j3 20).bind fun x14 =>
   some (.inl (jV .and .i64 x14 1,IntKind.i64.wrap (s13a+1),(l5a.set (s13a).toNat (jV .and .i64 s8j3 1048575))))
  else
   some (.inr l5a)
def nE (p0:(List Int)) (p1:(List Int)):Option ((List Int)) :=
 (cB p0).bind fun r1 =>
 (aX (q9 p1 r1) (0,0,r1)).bind fun l5ax =>
 (dt l5ax).bind fun r19 =>
 some r19
def qS (p0:al) (p1:al):Option (al×Int) :=
 (cl p0).bind fun r1 =>
 (if (!r1) then
  some true
 else
  (cl p1).bind fun r21 =>
  some (!r21)).bind fun s13j1 =>
 if s13j1 then
  (dJ false (al.mk 0 ([]))).bind fun r5 =>
  some (r5.1,r5.2)
 else
  if decide ((IntKind.i64.wrap (p0.ag*p1.ag))>=0) then
   (tn ([p0.ag,p1.ag])).bind fun r8 =>
   (pb p0.aa p1.aa).bind fun r9 =>
   (cm r8 r9).bind fun r10 =>
   (dJ true r10).bind fun r11 =>
   some (r11.1,r11.2)
  else
   (eM p0.aa p1.aa).bind fun r12 =>
   if decide (r12<0) then
    (nE p1.aa p0.aa).bind fun r14 =>
    (cm p1.ag r14).bind fun r15 =>
    (dJ true r15).bind fun r16 =>
    some (r16.1,r16.2)
   else
    (nE p0.aa p1.aa).bind fun r17 =>
    (cm p0.ag r17).bind fun r18 =>
    (dJ true r18).bind fun r19 =>
    some (r19.1,r19.2)
def mq (p0:al) (p1:al):Option (al×al×Int) :=
 (cl p0).bind fun r1 =>
 (if (!r1) then
  some true
 else
  (cl p1).bind fun r17 =>
  some (!r17)).bind fun s9j1 =>
 if s9j1 then
  some ((al.mk 0 ([])),(al.mk 0 ([])),1)
 else
  if (p1.ag==0) then
   some ((al.mk 0 ([])),(al.mk 0 ([])),15)
  else
   (pc p0.aa p1.aa).bind fun r5 =>
   (if decide ((IntKind.i64.wrap (p0.ag*p1.ag))<0) then
    some (decide ((r5.2.length:Int)>0))
   else
    some false).bind fun s44j2 =>
   if s44j2 then
    (pb r5.1 ([1])).bind fun r9 =>
    (cm (-1) r9).bind fun r10 =>
    (nE p1.aa r5.2).bind fun r11 =>
    (cm p1.ag r11).bind fun r12 =>
    some (r10,r12,0)
   else
    (cm (IntKind.i64.wrap (p0.ag*p1.ag)) r5.1).bind fun r13 =>
    (cm p0.ag r5.2).bind fun r14 =>
    some (r13,r14,0)
def ly (p0:al) (p1:al):Option (ak×Int) :=
 (cl p0).bind fun r1 =>
 (if (!r1) then
  some true
 else
  (cl p1).bind fun r13 =>
  some (!r13)).bind fun s14j1 =>
 if s14j1 then
  some ((ak.mk (al.mk 0 ([])) (al.mk 0 ([]))),1)
 else
  if (p1.ag==0) then
   some ((ak.mk (al.mk 0 ([])) (al.mk 0 ([]))),15)
  else
   (if decide (p1.ag<0) then
    (mr p0).bind fun r10 =>
    (mr p1).bind fun r11 =>
    some (r10.ag,r10.aa,r11.ag,r11.aa)
   else
    some (p0.ag,p0.aa,p1.ag,p1.aa)).bind fun q=>match q with
   | (r2_0j2,r2_1j2,r3_0j2,r3_1j2) =>
    (nA (al.mk r2_0j2 r2_1j2) (al.mk r3_0j2 r3_1j2)).bind fun r6 =>
    (mq (al.mk r2_0j2 r2_1j2) r6.1).bind fun r7 =>
    (mq (al.mk r3_0j2 r3_1j2) r6.1).bind fun r8 =>
    some ((ak.mk r7.1 r8.1),0)
def mO (p0:ak) (p1:ak):Option (ak×Int) :=
 (b7 p0).bind fun r1 =>
 (if (!r1) then
  some true
 else
  (b7 p1).bind fun r10 =>
  some (!r10)).bind fun s15j1 =>
 if s15j1 then
  some ((ak.mk (al.mk 0 ([])) (al.mk 0 ([]))),1)
 else
  (b8 p0.aL p1.aM).bind fun r4 =>
  (b8 p1.aL p0.aM).bind fun r5 =>
  (qS r4 r5).bind fun r6 =>
  (b8 p0.aM p1.aM).bind fun r7 =>
  (ly r6.1 r7).bind fun r8 =>
  some (r8.1,r8.2)
def mP (p0:ak) (p1:ak):Option (ak×Int) :=
 (b7 p0).bind fun r1 =>
 (if (!r1) then
  some true
 else
  (b7 p1).bind fun r7 =>
  some (!r7)).bind fun s13j1 =>
 if s13j1 then
  some ((ak.mk (al.mk 0 ([])) (al.mk 0 ([]))),1)
 else
  (mr p1.aL).bind fun r4 =>
  (mO p0 (ak.mk r4 p1.aM)).bind fun r5 =>
  some (r5.1,r5.2)
def lE (x1:(List ak)):(Int×(List ak))->Option ((Int×(List ak))⊕(((List ak))))
 | (s12a,l3a) =>
  if decide (s12a<((x1).length:Int)) then
   (gS 1).bind fun r9 =>
   (P.idx l3a s12a).bind fun x10 =>
   some (.inl (IntKind.i64.wrap (s12a+1),(l3a.set (s12a).toNat r9)))
  else
   some (.inr l3a)
def lF (p0:bW):(Int×(List ak))->Option ((Int×(List ak))⊕(((List ak))))
 | (s23b,l3b) =>
  if decide (s23b<(p0.av.length:Int)) then
   (P.idx p0.av s23b).bind fun x19 =>
   (P.idx l3b x19.cY).bind fun x20 =>
   (mP x20 x19.bg).bind fun r21 =>
   some (.inl (IntKind.i64.wrap (s23b+1),(l3b.set (x19.cY).toNat r21.1)))
  else
   some (.inr l3b)
def kM (p0:bW):Option ((List ak)) :=
 (D6 64 p0.aG p0.aG (ak.mk (al.mk 0 ([])) (al.mk 0 ([])))).bind fun x1 =>
 (aX (lE x1) (0,x1)).bind fun l3ax =>
 (aX (lF p0) (0,l3ax)).bind fun l3bx =>
 some l3bx
def kL (p0:ak):Option (Bool) :=
 (iG p0).bind fun r1 =>
 some (decide (r1<0))
def cX (p0:(List ak)):(Int)->Option ((Int)⊕((Unit)⊕(Int)))
 | s8a =>
  if decide (s8a<(p0.length:Int)) then
   (P.idx p0 s8a).bind fun x7 =>
   (kL x7).bind fun r8 =>
   if r8 then
    some (.inr (.inr s8a))
   else
    some (.inl (IntKind.i64.wrap (s8a+1)))
  else
   some (.inr (.inl ()))
def b9 (p0:(List ak)):Option (Int) :=
 (aX (cX p0) 0).bind fun q=>match q with
 | (.inl _) =>
  some (-1)
 | (.inr ra) =>
  some ra
def bt (p0:(List ak)):Option (Bool) :=
 (b9 p0).bind fun r1 =>
 some (decide (r1>=0))
def lD (p0:bW):(Int)->Option ((Int)⊕((Unit)⊕(Bool)))
 | s18b =>
  if decide (s18b<(p0.av.length:Int)) then
   (P.idx p0.av s18b).bind fun x21 =>
   (gE x21.cY 0 (IntKind.i64.wrap (p0.aG-1))).bind fun r22 =>
   (if (!r22) then
    some true
   else
    (gE x21.ko 0 (IntKind.i64.wrap (p0.aG-1))).bind fun r30 =>
    if (!r30) then
     some true
    else
     (b7 x21.bg).bind fun r32 =>
     if (!r32) then
      some true
     else
      (iG x21.bg).bind fun r34 =>
      some (decide (r34<=0))).bind fun s50j4 =>
   if s50j4 then
    some (.inr (.inr false))
   else
    if decide (s18b>0) then
     (P.idx p0.av (IntKind.i64.wrap (s18b-1))).bind fun x26 =>
     (ku x26 x21).bind fun r27 =>
     if decide (r27>=0) then
      some (.inr (.inr false))
     else
      some (.inl (IntKind.i64.wrap (s18b+1)))
    else
     some (.inl (IntKind.i64.wrap (s18b+1)))
  else
   some (.inr (.inl ()))
def jH (p0:bW):Option (Bool) :=
 (gE p0.aG 0 2000).bind fun r1 =>
 (if (!r1) then
  some true
 else
  some (decide ((p0.av.length:Int)>8000))).bind fun s14j1 =>
 if s14j1 then
  some false
 else
  (aX (lD p0) 0).bind fun q=>match q with
  | (.inl _) =>
   (kM p0).bind fun r35 =>
   (bt r35).bind fun r36 =>
   some (!r36)
  | (.inr rb) =>
   some rb
def gg (p0:ak):Option (Bool) :=
 (b7 p0).bind fun r1 =>
 some (!r1)
def ct (p0:(List ak)):(Int)->Option ((Int)⊕((Unit)⊕(Int)))
 | s8a =>
  if decide (s8a<(p0.length:Int)) then
   (P.idx p0 s8a).bind fun x7 =>
   (gg x7).bind fun r8 =>
   if r8 then
    some (.inr (.inr s8a))
   else
    some (.inl (IntKind.i64.wrap (s8a+1)))
  else
   some (.inr (.inl ()))
def bN (p0:(List ak)):Option (Int) :=
 (aX (ct p0) 0).bind fun q=>match q with
 | (.inl _) =>
  some (-1)
 | (.inr ra) =>
  some ra
def bx (p0:(List ak)):Option (Bool) :=
 (bN p0).bind fun r1 =>
 some (decide (r1>=0))
def eJ (p0:(List ak)) (p1:Int):Option (Bool) :=
 if ((p0.length:Int)==p1) then
  (bx p0).bind fun r2 =>
  some (!r2)
 else
  some false
def jD (p0:bW):(Int×(List (List Int)))->Option ((Int×(List (List Int)))⊕(((List (List Int)))))
 | (s22a,l18a) =>
  if decide (s22a<(p0.av.length:Int)) then
   (P.idx p0.av s22a).bind fun x13 =>
   (P.idx l18a x13.ko).bind fun x14 =>
   (k9 8 x14 [x13.cY]).bind fun x15 =>
   some (.inl (IntKind.i64.wrap (s22a+1),(l18a.set (x13.ko).toNat x15)))
  else
   some (.inr l18a)
def jE (r20:(List ak)):(Int×(List Int)×(List Int))->Option ((Int×(List Int)×(List Int))⊕(((List Int)×(List Int))))
 | (s46b,l6b,l7b) =>
  if decide (s46b<(r20.length:Int)) then
   (P.idx r20 s46b).bind fun x33 =>
   (P.idx l6b s46b).bind fun x34 =>
   (iG x33).bind fun r36 =>
   if decide (r36>0) then
    (P.idx (l6b.set (s46b).toNat (-1)) s46b).bind fun x38 =>
    (k9 8 l7b [s46b]).bind fun x40 =>
    some (.inl (IntKind.i64.wrap (s46b+1),((l6b.set (s46b).toNat (-1)).set (s46b).toNat 0),x40))
   else
    some (.inl (IntKind.i64.wrap (s46b+1),(l6b.set (s46b).toNat (-1)),l7b))
  else
   some (.inr (l6b,l7b))
def jG (x66:Int) (x69:(List Int)):(Int×(List Int)×(List Int))->Option ((Int×(List Int)×(List Int))⊕(((List Int)×(List Int))))
 | (s78e,l6e,l7e) =>
  if decide (s78e<((x69).length:Int)) then
   (P.idx x69 s78e).bind fun x80 =>
   (P.idx l6e x80).bind fun x81 =>
   if (x81==(-1)) then
    (P.idx l6e x66).bind fun x83 =>
    (k9 8 l7e [x80]).bind fun x85 =>
    some (.inl (IntKind.i64.wrap (s78e+1),(l6e.set (x80).toNat (IntKind.i64.wrap (x83+1))),x85))
   else
    some (.inl (IntKind.i64.wrap (s78e+1),l6e,l7e))
  else
   some (.inr (l6e,l7e))
def jF (l18ax:(List (List Int))):((List Int)×(List Int))->Option (((List Int)×(List Int))⊕(((List Int))))
 | (l6c,l7c) =>
  if decide (((l7c).length:Int)>0) then
   (P.idx l7c 0).bind fun x66 =>
   (AQ l7c 1 (l7c.length:Int)).bind fun x67 =>
   (P.idx l18ax x66).bind fun x69 =>
   (aX (jG x66 x69) (0,l6c,x67)).bind fun q=>match q with
   | (l6ex,l7ex) =>
    some (.inl (l6ex,l7ex))
  else
   some (.inr l6c)
def jC (p0:bW):Option ((List Int)) :=
 (jH p0).bind fun r1 =>
 if (!r1) then
  some ([])
 else
  (D6 24 p0.aG p0.aG ([])).bind fun x3 =>
  (aX (jD p0) (0,x3)).bind fun l18ax =>
  (D6 8 p0.aG p0.aG 0).bind fun x18 =>
  (kM p0).bind fun r20 =>
  (aX (jE r20) (0,x18,[])).bind fun q=>match q with
  | (l6bx,l7bx) =>
   (aX (jF l18ax) (l6bx,l7bx)).bind fun l6cx =>
   some l6cx
def gU (r1:(List Int)):(Int×(List Int))->Option ((Int×(List Int))⊕(((List Int))))
 | (s9a,l3a) =>
  if decide (s9a<(r1.length:Int)) then
   (P.idx r1 s9a).bind fun x9 =>
   if (x9==(-1)) then
    (k9 8 l3a [s9a]).bind fun x11 =>
    some (.inl (IntKind.i64.wrap (s9a+1),x11))
   else
    some (.inl (IntKind.i64.wrap (s9a+1),l3a))
  else
   some (.inr l3a)
def ia (p0:bW):Option ((List Int)) :=
 (jC p0).bind fun r1 =>
 (aX (gU r1) (0,[])).bind fun l3ax =>
 some l3ax
def fI (p1:(List ak)) (x1:(List aw)):(Int×(List aw))->Option ((Int×(List aw))⊕(((List aw))))
 | (s14a,l11a) =>
  if decide (s14a<((x1).length:Int)) then
   (P.idx p1 s14a).bind fun x10 =>
   (P.idx l11a s14a).bind fun x11 =>
   some (.inl (IntKind.i64.wrap (s14a+1),(l11a.set (s14a).toNat (aw.mk x10 x11.bl))))
  else
   some (.inr l11a)
def fJ (p0:bW):(Int×(List aw))->Option ((Int×(List aw))⊕(((List aw))))
 | (s29b,l11b) =>
  if decide (s29b<(p0.av.length:Int)) then
   (P.idx p0.av s29b).bind fun x24 =>
   (P.idx l11b x24.ko).bind fun x25 =>
   (k9 72 x25.bl [(dC.mk x24.cY x24.bg)]).bind fun x27 =>
   some (.inl (IntKind.i64.wrap (s29b+1),(l11b.set (x24.ko).toNat (aw.mk x25.aQ x27))))
  else
   some (.inr l11b)
def cF (p0:bW) (p1:(List ak)):Option ((List aw)) :=
 (D6 88 p0.aG p0.aG (aw.mk (ak.mk (al.mk 0 ([])) (al.mk 0 ([]))) ([]))).bind fun x1 =>
 (aX (fI p1 x1) (0,x1)).bind fun l11ax =>
 (aX (fJ p0) (0,l11ax)).bind fun l11bx =>
 some l11bx
def cj (p0:dC) (p1:Int):Option (Int) :=
 (ej p0.kp p1).bind fun r1 =>
 some r1
def bA (p0:(List dC)) (p1:Int):(Int×Int)->Option ((Int×Int)⊕((Int)))
 | (s9a,s10a) =>
  if decide (s9a<s10a) then
   (wU .u64 (IntKind.u64.wrap (IntKind.i64.wrap (s9a+s10a))) 1).bind fun x9 =>
   (P.idx p0 (IntKind.i64.wrap x9)).bind fun x11 =>
   (cj x11 p1).bind fun r12 =>
   if decide (r12<0) then
    some (.inl (IntKind.i64.wrap ((IntKind.i64.wrap x9)+1),s10a))
   else
    some (.inl (s9a,IntKind.i64.wrap x9))
  else
   some (.inr s9a)
def aR (p0:(List dC)) (p1:Int):Option (Int×Bool) :=
 (aX (bA p0 p1) (0,(p0.length:Int))).bind fun s9ax =>
 if decide (s9ax<(p0.length:Int)) then
  (P.idx p0 s9ax).bind fun x15 =>
  (cj x15 p1).bind fun r16 =>
  some (s9ax,(r16==0))
 else
  some (s9ax,false)
def ck (p0:aw) (p1:Int):Option (aw×(Int×Bool)) :=
 (aR p0.bl p1).bind fun r1 =>
 some (p0,(r1.1,r1.2))
def fv (p0:(List dC)) (p1 p2:Int):Option (List dC):=Vo p0 p1 p2
def lx (p0:ak) (p1:ak):Option (ak×Int) :=
 (b7 p0).bind fun r1 =>
 (if (!r1) then
  some true
 else
  (b7 p1).bind fun r9 =>
  some (!r9)).bind fun s6j1 =>
 if s6j1 then
  some ((ak.mk (al.mk 0 ([])) (al.mk 0 ([]))),1)
 else
  if (p1.aL.ag==0) then
   some ((ak.mk (al.mk 0 ([])) (al.mk 0 ([]))),15)
  else
   (b8 p0.aL p1.aM).bind fun r5 =>
   (b8 p0.aM p1.aL).bind fun r6 =>
   (ly r5 r6).bind fun r7 =>
   some (r7.1,r7.2)
def dK (r8:ak×Int) (r10:(List dC)):(Int×(List dC))->Option ((Int×(List dC))⊕(((List dC))))
 | (s58a,r0_4a) =>
  if decide (s58a<((r10).length:Int)) then
   (P.idx r0_4a s58a).bind fun x21 =>
   (lx x21.dE r8.1).bind fun r23 =>
   some (.inl (IntKind.i64.wrap (s58a+1),(r0_4a.set (s58a).toNat (dC.mk x21.kp r23.1))))
  else
   some (.inr r0_4a)
def cZ (p0:aw) (p1:Int):Option (aw×(Unit)) :=
 (ck p0 p1).bind fun r2 =>
 if (!r2.2.2) then
  some (r2.1,())
 else
  (gS 1).bind fun r5 =>
  (P.idx r2.1.bl r2.2.1).bind fun x6 =>
  (mP r5 x6.dE).bind fun r8 =>
  (fv r2.1.bl r2.2.1 (IntKind.i64.wrap (r2.2.1+1))).bind fun r10 =>
  (lx r2.1.aQ r8.1).bind fun r12 =>
  (aX (dK r8 r10) (0,r10)).bind fun r0_4ax =>
  some ((aw.mk r12.1 r0_4ax),())
def oF (p0:ak) (p1:ak):Option (ak×Int) :=
 (b7 p0).bind fun r1 =>
 (if (!r1) then
  some true
 else
  (b7 p1).bind fun r8 =>
  some (!r8)).bind fun s13j1 =>
 if s13j1 then
  some ((ak.mk (al.mk 0 ([])) (al.mk 0 ([]))),1)
 else
  (b8 p0.aL p1.aL).bind fun r4 =>
  (b8 p0.aM p1.aM).bind fun r5 =>
  (ly r4 r5).bind fun r6 =>
  some (r6.1,r6.2)
def e9 (p0:ak) (p1:ak) (p2:ak):Option (ak) :=
 (oF p1 p2).bind fun r1 =>
 (mO p0 r1.1).bind fun r2 =>
 some r2.1
def dF (p0:aw) (p1:Int) (p2:ak):Option (aw×(Unit)) :=
 (ck p0 p1).bind fun r2 =>
 if r2.2.2 then
  (P.idx r2.1.bl r2.2.1).bind fun x5 =>
  (gS 1).bind fun r7 =>
  (e9 x5.dE p2 r7).bind fun r8 =>
  some ((aw.mk r2.1.aQ (r2.1.bl.set (r2.2.1).toNat (dC.mk x5.kp r8))),())
 else
  (V4 72 r2.1.bl r2.2.1 [(dC.mk p1 p2)]).bind fun x11 =>
  some ((aw.mk r2.1.aQ x11),())
def eA (p2:aw) (x5:dC):(Int×Int×(List Int)×Int×(List Int)×(List dC))->Option ((Int×Int×(List Int)×Int×(List Int)×(List dC))⊕((Int×(List Int)×Int×(List Int)×(List dC))))
 | (s52a,r0_0a,r0_1a,r0_2a,r0_3a,r0_4a) =>
  if decide (s52a<(p2.bl.length:Int)) then
   (P.idx p2.bl s52a).bind fun x20 =>
   (gS 0).bind fun r21 =>
   (e9 r21 x5.dE x20.dE).bind fun r22 =>
   (dF (aw.mk (ak.mk (al.mk r0_0a r0_1a) (al.mk r0_2a r0_3a)) r0_4a) x20.kp r22).bind fun r24 =>
   some (.inl (IntKind.i64.wrap (s52a+1),r24.1.aQ.aL.ag,r24.1.aQ.aL.aa,r24.1.aQ.aM.ag,r24.1.aQ.aM.aa,r24.1.bl))
  else
   some (.inr (r0_0a,r0_1a,r0_2a,r0_3a,r0_4a))
def dG (p0:aw) (p1:Int) (p2:aw):Option (aw×(Unit)) :=
 (ck p0 p1).bind fun r2 =>
 if (!r2.2.2) then
  some (r2.1,())
 else
  (P.idx r2.1.bl r2.2.1).bind fun x5 =>
  (fv r2.1.bl r2.2.1 (IntKind.i64.wrap (r2.2.1+1))).bind fun r8 =>
  (e9 r2.1.aQ x5.dE p2.aQ).bind fun r10 =>
  (aX (eA p2 x5) (0,r10.aL.ag,r10.aL.aa,r10.aM.ag,r10.aM.aa,r8)).bind fun q=>match q with
  | (r0_0ax,r0_1ax,r0_2ax,r0_3ax,r0_4ax) =>
   some ((aw.mk (ak.mk (al.mk r0_0ax r0_1ax) (al.mk r0_2ax r0_3ax)) r0_4ax),())
def kW (s35b:Int):(Int×(List (Bool×aw)))->Option ((Int×(List (Bool×aw)))⊕(((List (Bool×aw)))))
 | (s8d,l32d) =>
  if decide (s8d<((l32d).length:Int)) then
   (P.idx l32d s8d).bind fun x50 =>
   (P.idx l32d s35b).bind fun x51 =>
   (NQ x51).bind fun x52 =>
   (Nm x50).bind fun x54 =>
   (dG x54 s35b x52).bind fun r56 =>
   some (.inl (IntKind.i64.wrap (s8d+1),(l32d.set (s8d).toNat (false,r56.1))))
  else
   some (.inr l32d)
def jo (r6:(List aw)):(Int×(List (Bool×aw)))->Option ((Int×(List (Bool×aw)))⊕(((List (Bool×aw)))))
 | (s35b,l32b) =>
  if decide (s35b<((r6).length:Int)) then
   (P.idx l32b s35b).bind fun x34 =>
   (Nm x34).bind fun x35 =>
   (cZ x35 s35b).bind fun r37 =>
   (aX (kW s35b) (IntKind.i64.wrap (s35b+1),(l32b.set (s35b).toNat (true,r37.1)))).bind fun l32dx =>
   some (.inl (IntKind.i64.wrap (s35b+1),l32dx))
  else
   some (.inr l32b)
def m7 (l9e:(List ak)) (x81:aw):(Int×Int×(List Int)×Int×(List Int))->Option ((Int×Int×(List Int)×Int×(List Int))⊕((Int×(List Int)×Int×(List Int))))
 | (s85g,r11_0g,r11_1g,r11_2g,r11_3g) =>
  if decide (s85g<(x81.bl.length:Int)) then
   (P.idx x81.bl s85g).bind fun x92 =>
   (P.idx l9e x92.kp).bind fun x93 =>
   (e9 (ak.mk (al.mk r11_0g r11_1g) (al.mk r11_2g r11_3g)) x92.dE x93).bind fun r94 =>
   some (.inl (IntKind.i64.wrap (s85g+1),r94.aL.ag,r94.aL.aa,r94.aM.ag,r94.aM.aa))
  else
   some (.inr (r11_0g,r11_1g,r11_2g,r11_3g))
def jq (l32bx:(List (Bool×aw))):(Int×(List ak))->Option ((Int×(List ak))⊕(((List ak))))
 | (s10e,l9e) =>
  if decide (s10e>=0) then
   (P.idx l32bx s10e).bind fun x80 =>
   (NQ x80).bind fun x81 =>
   (gS 0).bind fun r83 =>
   (e9 x81.aQ r83 r83).bind fun r84 =>
   (aX (m7 l9e x81) (0,r84.aL.ag,r84.aL.aa,r84.aM.ag,r84.aM.aa)).bind fun q=>match q with
   | (r11_0gx,r11_1gx,r11_2gx,r11_3gx) =>
    (P.idx l9e s10e).bind fun x95 =>
    some (.inl (IntKind.i64.wrap (s10e-1),(l9e.set (s10e).toNat (ak.mk (al.mk r11_0gx r11_1gx) (al.mk r11_2gx r11_3gx)))))
  else
   some (.inr l9e)
def ez (p0:bW) (p1:(List ak)):Option ((List ak)×Int) :=
 (jH p0).bind fun r1 =>
 (if (!r1) then
  some true
 else
  (eJ p1 p0.aG).bind fun r98 =>
  some (!r98)).bind fun s14j1 =>
 if s14j1 then
  some ([],1)
 else
  (ia p0).bind fun r4 =>
  if decide ((r4.length:Int)>0) then
   some ([],24)
  else
   (cF p0 p1).bind fun r6 =>
   (aX (jo r6) (0,(F6 r6))).bind fun l32bx =>
   (D6 64 p0.aG p0.aG (ak.mk (al.mk 0 ([])) (al.mk 0 ([])))).bind fun x58 =>
   (aX (jq l32bx) (IntKind.i64.wrap (((l32bx).length:Int)-1),x58)).bind fun l9ex =>
   some (l9ex,0)
def lN (p0:al) (p1:al):(Int)->Option ((Int)⊕((Unit)⊕(Bool)))
 | s5b =>
  if decide (s5b<(p0.aa.length:Int)) then
   (P.idx p0.aa s5b).bind fun x9 =>
   (P.idx p1.aa s5b).bind fun x10 =>
   if (x9 != x10) then
    some (.inr (.inr false))
   else
    some (.inl (IntKind.i64.wrap (s5b+1)))
  else
   some (.inr (.inl ()))
def ic (p0:al) (p1:al):Option (Bool) :=
 (if (p0.ag != p1.ag) then
  some true
 else
  some ((p0.aa.length:Int) != (p1.aa.length:Int))).bind fun s19j1 =>
 if s19j1 then
  some false
 else
  (aX (lN p0 p1) 0).bind fun q=>match q with
  | (.inl _) =>
   some true
  | (.inr rb) =>
   some rb
def lM (p0:ak) (p1:ak):Option (Bool) :=
 (ic p0.aL p1.aL).bind fun r1 =>
 if r1 then
  (ic p0.aM p1.aM).bind fun r3 =>
  some r3
 else
  some false
def An (p0:(List ak)) (p1:(List ak)):(Int)->Option ((Int)⊕((Unit)⊕(Bool)))
 | s5a =>
  if decide (s5a<(p0.length:Int)) then
   (P.idx p0 s5a).bind fun x9 =>
   (P.idx p1 s5a).bind fun x10 =>
   (lM x9 x10).bind fun r11 =>
   if (!r11) then
    some (.inr (.inr false))
   else
    some (.inl (IntKind.i64.wrap (s5a+1)))
  else
   some (.inr (.inl ()))
def tX (p0:(List ak)) (p1:(List ak)):Option (Bool) :=
 if ((p0.length:Int) != (p1.length:Int)) then
  some false
 else
  (aX (An p0 p1) 0).bind fun q=>match q with
  | (.inl _) =>
   some true
  | (.inr ra) =>
   some ra
def mJ (p0:al) (p1:al):Option (Int) :=
 (cl p0).bind fun r1 =>
 (if (!r1) then
  some true
 else
  (cl p1).bind fun r8 =>
  some (!r8)).bind fun s12j1 =>
 if s12j1 then
  some 0
 else
  if (p0.ag != p1.ag) then
   (ej p0.ag p1.ag).bind fun r5 =>
   some r5
  else
   (eM p0.aa p1.aa).bind fun r6 =>
   some (IntKind.i64.wrap (p0.ag*r6))
def lv (p0:ak) (p1:ak):Option (Int) :=
 (b7 p0).bind fun r1 =>
 (if (!r1) then
  some true
 else
  (b7 p1).bind fun r8 =>
  some (!r8)).bind fun s12j1 =>
 if s12j1 then
  some 0
 else
  (b8 p0.aL p1.aM).bind fun r4 =>
  (b8 p1.aL p0.aM).bind fun r5 =>
  (mJ r4 r5).bind fun r6 =>
  some r6
def ud (p2:(List ak)) (x21:aw):(Int×Int×(List Int)×Int×(List Int))->Option ((Int×Int×(List Int)×Int×(List Int))⊕((Int×(List Int)×Int×(List Int))))
 | (s43d,r9_0d,r9_1d,r9_2d,r9_3d) =>
  if decide (s43d<(x21.bl.length:Int)) then
   (P.idx x21.bl s43d).bind fun x28 =>
   (P.idx p2 x28.kp).bind fun x29 =>
   (e9 (ak.mk (al.mk r9_0d r9_1d) (al.mk r9_2d r9_3d)) x28.dE x29).bind fun r30 =>
   some (.inl (IntKind.i64.wrap (s43d+1),r30.aL.ag,r30.aL.aa,r30.aM.ag,r30.aM.aa))
  else
   some (.inr (r9_0d,r9_1d,r9_2d,r9_3d))
def uc (p2:(List ak)) (r4:(List aw)):(Int)->Option ((Int)⊕((Unit)⊕(Bool)))
 | s33b =>
  if decide (s33b<(r4.length:Int)) then
   (P.idx r4 s33b).bind fun x21 =>
   (aX (ud p2 x21) (0,x21.aQ.aL.ag,x21.aQ.aL.aa,x21.aQ.aM.ag,x21.aQ.aM.aa)).bind fun q=>match q with
   | (r9_0dx,r9_1dx,r9_2dx,r9_3dx) =>
    (P.idx p2 s33b).bind fun x31 =>
    (lv (ak.mk (al.mk r9_0dx r9_1dx) (al.mk r9_2dx r9_3dx)) x31).bind fun r32 =>
    if (r32 != 0) then
     some (.inr (.inr false))
    else
     some (.inl (IntKind.i64.wrap (s33b+1)))
  else
   some (.inr (.inl ()))
def kV (p0:bW) (p1:(List ak)) (p2:(List ak)):Option (Bool) :=
 (jH p0).bind fun r1 =>
 (if (!r1) then
  some true
 else
  (eJ p1 p0.aG).bind fun r35 =>
  if (!r35) then
   some true
  else
   (eJ p2 p0.aG).bind fun r37 =>
   some (!r37)).bind fun s28j1 =>
 if s28j1 then
  some false
 else
  (cF p0 p1).bind fun r4 =>
  (aX (uc p2 r4) 0).bind fun q=>match q with
  | (.inl _) =>
   some true
  | (.inr rb) =>
   some rb
def mQ (p0:bW) (p1:(List Int)) (p2:(List Int)):Option (Bool) :=
 (jX p1).bind fun r1 =>
 (ez p0 r1).bind fun r2 =>
 if (r2.2==0) then
  (jX p2).bind fun r4 =>
  (tX r2.1 r4).bind fun r5 =>
  if r5 then
   (kV p0 r1 r2.1).bind fun r7 =>
   some r7
  else
   some false
 else
  some false
def nW:Option (Bool) :=
 (jY 0 1 1 2).bind fun r1 =>
 (jY 1 0 1 2).bind fun r2 =>
 (jY 0 1 1 1).bind fun r3 =>
 (jY 1 2 1 3).bind fun r4 =>
 (jY 0 0 3 4).bind fun r5 =>
 (jY 1 0 1 1).bind fun r6 =>
 (jX ([1,0])).bind fun r8 =>
 (ez (bW.mk 2 ([r3,r6])) r8).bind fun r10 =>
 (jX ([1])).bind fun r12 =>
 (ez (bW.mk 2 ([r1,r2])) r12).bind fun r14 =>
 (mQ (bW.mk 2 ([r1,r2])) ([30,0]) ([40,20])).bind fun r16 =>
 (if r16 then
  (mQ (bW.mk 3 ([r3,r4])) ([6,3,0]) ([6,9,3])).bind fun r29 =>
  if r29 then
   (mQ (bW.mk 1 ([r5])) ([1]) ([4])).bind fun r32 =>
   if r32 then
    (mQ (bW.mk 0 ([])) ([]) ([])).bind fun r35 =>
    some r35
   else
    some false
  else
   some false
 else
  some false).bind fun s9j1 =>
 if s9j1 then
  if (r10.2==24) then
   if (r14.2==1) then
    (jX ([30,0])).bind fun r22 =>
    (jX ([40,21])).bind fun r24 =>
    (kV (bW.mk 2 ([r1,r2])) r22 r24).bind fun r26 =>
    some (!r26)
   else
    some false
  else
   some false
 else
  some false
def nT (p0:ak) (p1:Int):Option (Bool) :=
 if decide ((p0.aL.aa.length:Int)<=p1) then
  some (decide ((p0.aM.aa.length:Int)<=p1))
 else
  some false
def mF (p0:bW):(Int)->Option ((Int)⊕((Unit)⊕(Bool)))
 | s3a =>
  (if decide (s3a<(p0.av.length:Int)) then
   some (decide (s3a<40))
  else
   some false).bind fun s12j3 =>
  if s12j3 then
   (P.idx p0.av s3a).bind fun x10 =>
   (nT x10.bg 6).bind fun r11 =>
   if (!r11) then
    some (.inr (.inr false))
   else
    some (.inl (IntKind.i64.wrap (s3a+1)))
  else
   some (.inr (.inl ()))
def ky (p0:bW):Option (Bool) :=
 (aX (mF p0) 0).bind fun q=>match q with
 | (.inl _) =>
  if decide (p0.aG<=12) then
   some (decide ((p0.av.length:Int)<=40))
  else
   if decide (p0.aG>2000) then
    some (decide ((p0.av.length:Int)<=40))
   else
    some false
 | (.inr ra) =>
  some ra
def sd (p0:(List ak)) (p1:Int):(Int)->Option ((Int)⊕((Unit)⊕(Bool)))
 | s5a =>
  (if decide (s5a<(p0.length:Int)) then
   some (decide (s5a<=14))
  else
   some false).bind fun s13j3 =>
  if s13j3 then
   (P.idx p0 s5a).bind fun x10 =>
   (nT x10 p1).bind fun r11 =>
   if (!r11) then
    some (.inr (.inr false))
   else
    some (.inl (IntKind.i64.wrap (s5a+1)))
  else
   some (.inr (.inl ()))
def sb (p0:(List ak)) (p1:Int):Option (Bool) :=
 (aX (sd p0 p1) 0).bind fun q=>match q with
 | (.inl _) =>
  some (decide ((p0.length:Int)<=14))
 | (.inr ra) =>
  some ra
def rO (p0:bW) (p1:(List ak)):Option (Bool) :=
 (ky p0).bind fun r1 =>
 if r1 then
  (sb p1 4).bind fun r3 =>
  some r3
 else
  some false
def Ak (p0:al) (p1:al):(Int)->Option ((Int)⊕((Unit)⊕(Bool)))
 | s5b =>
  if decide (s5b<(p0.aa.length:Int)) then
   (P.idx p0.aa s5b).bind fun x9 =>
   (P.idx p1.aa s5b).bind fun x10 =>
   if (x9 != x10) then
    some (.inr (.inr false))
   else
    some (.inl (IntKind.i64.wrap (s5b+1)))
  else
   some (.inr (.inl ()))
def qv (p0:al) (p1:al):Option (Bool) :=
 (if (p0.ag != p1.ag) then
  some true
 else
  some ((p0.aa.length:Int) != (p1.aa.length:Int))).bind fun s19j1 =>
 if s19j1 then
  some false
 else
  (aX (Ak p0 p1) 0).bind fun q=>match q with
  | (.inl _) =>
   some true
  | (.inr rb) =>
   some rb
def jn (p0:al) (p1:al):Option (Int) :=
 (dp p0).bind fun r1 =>
 (if (!r1) then
  some true
 else
  (dp p1).bind fun r9 =>
  if (!r9) then
   some true
  else
   (qv p0 p1).bind fun r11 =>
   some r11).bind fun s17j1 =>
 if s17j1 then
  some 0
 else
  if (p0.ag != p1.ag) then
   if decide (p0.ag<p1.ag) then
    some (-1)
   else
    some 1
  else
   (m0 p0.aa p1.aa).bind fun r6 =>
   if (r6==(decide (p0.ag>0))) then
    some (-1)
   else
    some 1
def kT (p0:ak):Option (Bool) :=
 (dp p0.aL).bind fun r1 =>
 (if (!r1) then
  some true
 else
  (dp p0.aM).bind fun r8 =>
  if (!r8) then
   some true
  else
   some (decide (p0.aM.ag<1))).bind fun s20j1 =>
 if s20j1 then
  some false
 else
  (pM p0.aL p0.aM).bind fun r4 =>
  (sa 1).bind fun r5 =>
  (jn r4.1 r5).bind fun r6 =>
  some (r6==0)
def fZ (p0:bW):(Int×(List Bool))->Option ((Int×(List Bool))⊕(((List Bool))))
 | (s18f,l16f) =>
  if decide (s18f<(p0.av.length:Int)) then
   (P.idx p0.av s18f).bind fun x49 =>
   (P.idx l16f x49.cY).bind fun x50 =>
   if x50 then
    (P.idx l16f x49.ko).bind fun x52 =>
    some (.inl (IntKind.i64.wrap (s18f+1),(l16f.set (x49.ko).toNat true)))
   else
    some (.inl (IntKind.i64.wrap (s18f+1),l16f))
  else
   some (.inr l16f)
def fY (p0:bW) (p1:(List ak)):(Int×(List Bool))->Option ((Int×(List Bool))⊕(((List Bool))))
 | (s17d,l16d) =>
  if decide (s17d<(p1.length:Int)) then
   (aX (fZ p0) (0,l16d)).bind fun l16fx =>
   some (.inl (IntKind.i64.wrap (s17d+1),l16fx))
  else
   some (.inr l16d)
def kd (r11:(List ak)×Int) (r13:(List ak)×Int) (l16dx:(List Bool)):(Int)->Option ((Int)⊕((Unit)⊕(Bool)))
 | s19g =>
  if decide (s19g<(r11.1.length:Int)) then
   (P.idx l16dx s19g).bind fun x63 =>
   if (!x63) then
    (P.idx r11.1 s19g).bind fun x65 =>
    (P.idx r13.1 s19g).bind fun x66 =>
    (lM x65 x66).bind fun r67 =>
    if (!r67) then
     some (.inr (.inr false))
    else
     some (.inl (IntKind.i64.wrap (s19g+1)))
   else
    some (.inl (IntKind.i64.wrap (s19g+1)))
  else
   some (.inr (.inl ()))
def ij (p0:bW) (p1:(List ak)) (p2:Int) (p3:ak):Option (Bool) :=
 (nW).bind fun r1 =>
 (rO p0 p1).bind fun r2 =>
 (if (!r2) then
  some true
 else
  (nT p3 4).bind fun r72 =>
  if (!r72) then
   some true
  else
   (b7 p3).bind fun r74 =>
   if (!r74) then
    some true
   else
    some ((p1.length:Int)==0)).bind fun s39j1 =>
 if s39j1 then
  some r1
 else
  (yZ .i64 (IntKind.i64.wrap p2) (p1.length:Int)).bind fun x5 =>
  (k9 64 [] p1).bind fun _ =>
  (P.idx p1 x5).bind fun x9 =>
  (ez p0 p1).bind fun r11 =>
  (ez p0 (p1.set (x5).toNat p3)).bind fun r13 =>
  if (r11.2 != 0) then
   (if r1 then
    if (r13.2==r11.2) then
     some true
    else
     (kT x9).bind fun r18 =>
     some (!r18)
   else
    some false).bind fun s8j2 =>
   some s8j2
  else
   (if (r13.2 != 0) then
    some true
   else
    if ((r11.1.length:Int) != (p1.length:Int)) then
     some true
    else
     some ((r13.1.length:Int) != (p1.length:Int))).bind fun s96j3 =>
   if s96j3 then
    some false
   else
    (D6 1 (p1.length:Int) (p1.length:Int) false).bind fun x21 =>
    (P.idx x21 x5).bind fun x23 =>
    (aX (fY p0 p1) (0,(x21.set (x5).toNat true))).bind fun l16dx =>
    (aX (kd r11 r13 l16dx) 0).bind fun q=>match q with
    | (.inl _) =>
     some r1
    | (.inr rg) =>
     some rg
end Go.Proofs.Ytchndpjlijbplaa.P
namespace Go.Proofs.Ytchndpjlijbplaa.Am
open Go.RowKit Go.Proofs.Ytchndpjlijbplaa.P
set_option maxRecDepth 100000
set_option maxHeartbeats 4000000
set_option linter.unusedSimpArgs false
set_option linter.unusedVariables false
theorem vmt:type_of% (ai @ZJ<|ai @SX<|ai @ZK<|ai @Xf<|ai @ZL<|ai @W7<|ai @W8<|ai @Qg<|ai @W9<|ai @Jl<|ai @Jm<|ai @Xa<|ai @Jn<|ai @Xb<|ai @Xc<|ai @Qh<|ai @Xd<|ai @DR<|ai @Xe<|ai @Jo<|ai @Xg<|ai @Xh<|ai @Xi<|ai @Xj<|ai @Qi<|ai @Xk<|ai @Xl<|ai @Xm<|ai @SU<|ai @SV<|@SW):=⟨@ZJ,@SX,@ZK,@Xf,@ZL,@W7,@W8,@Qg,@W9,@Jl,@Jm,@Xa,@Jn,@Xb,@Xc,@Qh,@Xd,@DR,@Xe,@Jo,@Xg,@Xh,@Xi,@Xj,@Qi,@Xk,@Xl,@Xm,@SU,@SV,@SW⟩
def eo:ig al:=KO (xr (eI .i64) (Oj (eI .i64))) (fun x=>(x.ag,x.aa)) (by rintro⟨⟩ ⟨⟩ h;simpa using h)
theorem zO (x:al):eo.cells x=[.int .i64 x.ag,.sl false false x.aa.length (ae (eI .i64) x.aa)]:=af4
theorem rl:eo.size=2:=af4
theorem KZ (x:al):al.mk x.ag x.aa=x:=af4
def ay:ig ak:=KO (xr eo eo) (fun x=>(x.aL,x.aM)) (by rintro⟨⟩ ⟨⟩ h;simpa using h)
theorem xu (x:ak):ay.cells x=[.int .i64 x.aL.ag,.sl false false x.aL.aa.length (ae (eI .i64) x.aL.aa),.int .i64 x.aM.ag,.sl false false x.aM.aa.length (ae (eI .i64) x.aM.aa)]:=af4
theorem pe:ay.size=4:=af4
theorem FZ (x:ak):ak.mk x.aL x.aM=x:=af4
def a8:ig dr:=KO (xr (eI .i64) (xr (eI .i64) ay)) (fun x=>(x.cY,x.ko,x.bg)) (by rintro⟨⟩ ⟨⟩ h;simpa using h)
theorem xv (x:dr):a8.cells x=[.int .i64 x.cY,.int .i64 x.ko,.int .i64 x.bg.aL.ag,.sl false false x.bg.aL.aa.length (ae (eI .i64) x.bg.aL.aa),.int .i64 x.bg.aM.ag,.sl false false x.bg.aM.aa.length (ae (eI .i64) x.bg.aM.aa)]:=af4
theorem pf:a8.size=6:=af4
theorem F0 (x:dr):dr.mk x.cY x.ko x.bg=x:=af4
def ns:ig bW:=KO (xr (eI .i64) (Oj a8)) (fun x=>(x.aG,x.av)) (by rintro⟨⟩ ⟨⟩ h;simpa using h)
theorem zP (x:bW):ns.cells x=[.int .i64 x.aG,.sl false false x.av.length (ae a8 x.av)]:=af4
theorem rm:ns.size=2:=af4
theorem K3 (x:bW):bW.mk x.aG x.av=x:=af4
def bo:ig dC:=KO (xr (eI .i64) ay) (fun x=>(x.kp,x.dE)) (by rintro⟨⟩ ⟨⟩ h;simpa using h)
theorem xw (x:dC):bo.cells x=[.int .i64 x.kp,.int .i64 x.dE.aL.ag,.sl false false x.dE.aL.aa.length (ae (eI .i64) x.dE.aL.aa),.int .i64 x.dE.aM.ag,.sl false false x.dE.aM.aa.length (ae (eI .i64) x.dE.aM.aa)]:=af4
theorem pg:bo.size=5:=af4
theorem F1 (x:dC):dC.mk x.kp x.dE=x:=af4
def cz:ig aw:=KO (xr ay (Oj bo)) (fun x=>(x.aQ,x.bl)) (by rintro⟨⟩ ⟨⟩ h;simpa using h)
theorem ma (x:aw):cz.cells x=[.int .i64 x.aQ.aL.ag,.sl false false x.aQ.aL.aa.length (ae (eI .i64) x.aQ.aL.aa),.int .i64 x.aQ.aM.ag,.sl false false x.aQ.aM.aa.length (ae (eI .i64) x.aQ.aM.aa),.sl false false x.bl.length (ae bo x.bl)]:=af4
theorem ka:cz.size=5:=af4
def aE:ig aw:=KO (xr ay (B7 bo)) (fun x=>(x.aQ,x.bl)) (by rintro⟨⟩ ⟨⟩ h;simpa using h)
theorem cS (x:aw):aE.cells x=[.int .i64 x.aQ.aL.ag,.sl false false x.aQ.aL.aa.length (ae (eI .i64) x.aQ.aL.aa),.int .i64 x.aQ.aM.ag,.sl false false x.aQ.aM.aa.length (ae (eI .i64) x.aQ.aM.aa),.nx (x.bl).length (ae bo (x.bl))]:=af4
theorem l9:aE.size=5:=af4
theorem Cb (x:aw):(aE.cells x).map D1=cz.cells x:=af4
theorem Ca (x:aw):(aE.cells x).all (vE 5)=true:=by simp[cS,vE,fb,bL,AU,rj,uE,xt,rl,pe,pf,rm,pg,ka]
def aY:ig (Bool×aw):=aaX cz aE rfl (by intro x y h;simp[ma,cS]at h)
theorem vR (x:aw):aY.cells (false,x)=[.int .i64 x.aQ.aL.ag,.sl false false x.aQ.aL.aa.length (ae (eI .i64) x.aQ.aL.aa),.int .i64 x.aQ.aM.ag,.sl false false x.aQ.aM.aa.length (ae (eI .i64) x.aQ.aM.aa),.nx (x.bl).length (ae bo (x.bl))]:=af4
theorem vS (x:aw):aY.cells (true,x)=[.int .i64 x.aQ.aL.ag,.sl false false x.aQ.aL.aa.length (ae (eI .i64) x.aQ.aL.aa),.int .i64 x.aQ.aM.ag,.sl false false x.aQ.aM.aa.length (ae (eI .i64) x.aQ.aM.aa),.sl false false x.bl.length (ae bo x.bl)]:=af4
theorem lq (x:aw):aY.cells (false,x)=aE.cells x:=af4
theorem B9 (x:aw):aY.cells (true,x)=cz.cells x:=af4
theorem l8:aY.size=5:=af4
theorem vT (x:aw):aw.mk x.aQ x.bl=x:=af4
theorem Zi {l:List _} : (ae (eI .i64) l).length=l.length*1:=bL _ l
theorem Qj {l:List _} : (ae (eI .i64) l).take (l.length*1)=ae (eI .i64) l:=by
 have:=ef (eI .i64) l l.length
 rw[afg]at this
 exact this
theorem Xn {l:List _} {i:Nat} {x:_} : (ae (eI .i64) (l.set i x)).take (l.length*1)=ae (eI .i64) (l.set i x):=by
 have:=@Qj (l.set i x)
 rwa [aff]at this
theorem Zj {l:List _} : (ae (eI .u8) l).length=l.length*1:=bL _ l
theorem Qk {l:List _} : (ae (eI .u8) l).take (l.length*1)=ae (eI .u8) l:=by
 have:=ef (eI .u8) l l.length
 rw[afg]at this
 exact this
theorem Xo {l:List _} {i:Nat} {x:_} : (ae (eI .u8) (l.set i x)).take (l.length*1)=ae (eI .u8) (l.set i x):=by
 have:=@Qk (l.set i x)
 rwa [aff]at this
theorem Zk {l:List _} : (ae (B7 (eI .i64)) l).length=l.length*1:=bL _ l
theorem Ql {l:List _} : (ae (B7 (eI .i64)) l).take (l.length*1)=ae (B7 (eI .i64)) l:=by
 have:=ef (B7 (eI .i64)) l l.length
 rw[afg]at this
 exact this
theorem Xp {l:List _} {i:Nat} {x:_} : (ae (B7 (eI .i64)) (l.set i x)).take (l.length*1)=ae (B7 (eI .i64)) (l.set i x):=by
 have:=@Ql (l.set i x)
 rwa [aff]at this
theorem Zl {l:List _} : (ae (Oj (eI .i64)) l).length=l.length*1:=bL _ l
theorem Qm {l:List _} : (ae (Oj (eI .i64)) l).take (l.length*1)=ae (Oj (eI .i64)) l:=by
 have:=ef (Oj (eI .i64)) l l.length
 rw[afg]at this
 exact this
theorem Xq {l:List _} {i:Nat} {x:_} : (ae (Oj (eI .i64)) (l.set i x)).take (l.length*1)=ae (Oj (eI .i64)) (l.set i x):=by
 have:=@Qm (l.set i x)
 rwa [aff]at this
theorem Zm {l:List _} : (ae kH l).length=l.length*1:=bL _ l
theorem Qn {l:List _} : (ae kH l).take (l.length*1)=ae kH l:=by
 have:=ef kH l l.length
 rw[afg]at this
 exact this
theorem Xr {l:List _} {i:Nat} {x:_} : (ae kH (l.set i x)).take (l.length*1)=ae kH (l.set i x):=by
 have:=@Qn (l.set i x)
 rwa [aff]at this
theorem Zn {l:List _} : (ae ay l).length=l.length*4:=bL _ l
theorem Qo {l:List _} : (ae ay l).take (l.length*4)=ae ay l:=by
 have:=ef ay l l.length
 rw[afg]at this
 exact this
theorem Xt {l:List _} {i:Nat} {x:_} : (ae ay (l.set i x)).take (l.length*4)=ae ay (l.set i x):=by
 have:=@Qo (l.set i x)
 rwa [aff]at this
theorem Zo {l:List _} : (ae a8 l).length=l.length*6:=bL _ l
theorem Qp {l:List _} : (ae a8 l).take (l.length*6)=ae a8 l:=by
 have:=ef a8 l l.length
 rw[afg]at this
 exact this
theorem Xu {l:List _} {i:Nat} {x:_} : (ae a8 (l.set i x)).take (l.length*6)=ae a8 (l.set i x):=by
 have:=@Qp (l.set i x)
 rwa [aff]at this
theorem Zp {l:List _} : (ae cz l).length=l.length*5:=bL _ l
theorem Qq {l:List _} : (ae cz l).take (l.length*5)=ae cz l:=by
 have:=ef cz l l.length
 rw[afg]at this
 exact this
theorem Xv {l:List _} {i:Nat} {x:_} : (ae cz (l.set i x)).take (l.length*5)=ae cz (l.set i x):=by
 have:=@Qq (l.set i x)
 rwa [aff]at this
theorem Zq {l:List _} : (ae aY l).length=l.length*5:=bL _ l
theorem Qr {l:List _} : (ae aY l).take (l.length*5)=ae aY l:=by
 have:=ef aY l l.length
 rw[afg]at this
 exact this
theorem Xw {l:List _} {i:Nat} {x:_} : (ae aY (l.set i x)).take (l.length*5)=ae aY (l.set i x):=by
 have:=@Qr (l.set i x)
 rwa [aff]at this
theorem Zr {l:List _} : (ae aE l).length=l.length*5:=bL _ l
theorem Qs {l:List _} : (ae aE l).take (l.length*5)=ae aE l:=by
 have:=ef aE l l.length
 rw[afg]at this
 exact this
theorem Xx {l:List _} {i:Nat} {x:_} : (ae aE (l.set i x)).take (l.length*5)=ae aE (l.set i x):=by
 have:=@Qs (l.set i x)
 rwa [aff]at this
theorem Wb {l:List _} : (ae bo l).length=l.length*5:=bL _ l
theorem Jp {l:List _} : (ae bo l).take (l.length*5)=ae bo l:=by
 have:=ef bo l l.length
 rw[afg]at this
 exact this
theorem SY {l:List _} {i:Nat} {x:_} : (ae bo (l.set i x)).take (l.length*5)=ae bo (l.set i x):=by
 have:=@Jp (l.set i x)
 rwa [aff]at this
theorem vme:type_of% (ai @B6<|ai @zN<|ai @B8<|ai @yM<|ai @AU<|ai @rj<|ai @uE<|ai @xt<|ai @xx<|ai @uD<|ai @tx<|ai @cS<|ai @l9<|ai @vR<|ai @vS<|ai @l8<|ai @zO<|ai @rl<|ai @xu<|ai @pe<|ai @xv<|ai @pf<|ai @zP<|ai @rm<|ai @xw<|ai @pg<|ai @ma<|@ka):=⟨@B6,@zN,@B8,@yM,@AU,@rj,@uE,@xt,@xx,@uD,@tx,@cS,@l9,@vR,@vS,@l8,@zO,@rl,@xu,@pe,@xv,@pf,@zP,@rm,@xw,@pg,@ma,@ka⟩
theorem vml:type_of% (ai @aJ<|ai @KZ<|ai @FZ<|ai @F0<|ai @K3<|ai @F1<|ai @vT<|ai @Zi<|ai @Qj<|ai @Xn<|ai @Zj<|ai @Qk<|ai @Xo<|ai @Zk<|ai @Ql<|ai @Xp<|ai @Zl<|ai @Qm<|ai @Xq<|ai @Zm<|ai @Qn<|ai @Xr<|ai @Zn<|ai @Qo<|ai @Xt<|ai @Zo<|ai @Qp<|ai @Xu<|ai @Zp<|ai @Qq<|ai @Xv<|ai @Zq<|ai @Qr<|ai @Xw<|ai @Zr<|ai @Qs<|ai @Xx<|ai @Wb<|ai @Jp<|@SY):=⟨@aJ,@KZ,@FZ,@F0,@K3,@F1,@vT,@Zi,@Qj,@Xn,@Zj,@Qk,@Xo,@Zk,@Ql,@Xp,@Zl,@Qm,@Xq,@Zm,@Qn,@Xr,@Zn,@Qo,@Xt,@Zo,@Qp,@Xu,@Zp,@Qq,@Xv,@Zq,@Qr,@Xw,@Zr,@Qs,@Xx,@Wb,@Jp,@SY⟩
theorem w:type_of% (ai @v<|ai @vmt<|ai @vme<|ai @vml<|ai @vn<|@vi):=⟨@v,@vmt,@vme,@vml,@vn,@vi⟩
theorem bC:type_of% (ai @vme<|ai @ae6<|ai @aeW<|ai @adI<|ai @ae7<|@aeB):=⟨@vme,@ae6,@aeW,@adI,@ae7,@aeB⟩
noncomputable def kj:=fR (fO (nc (eI .i64))) (fun x:(List Int)=>gz x) (fun r:(List Int) =>.clean (.sl false false r.length (ae (eI .i64) r)))
theorem fG (p0:(List Int)):kj none [.sl false false p0.length (ae (eI .i64) p0)]=(gz p0).map fun r:(List Int)=>(.clean (.sl false false r.length (ae (eI .i64) r)),none):=aU _ _ _ (p0)
theorem PI (p0:(List Int)) (r:(List Int)) (hh:gz p0=some r):ba .clean tab a7 FU Try.f106 none [.sl false false p0.length (ae (eI .i64) p0)]=some (.clean (.sl false false r.length (ae (eI .i64) r)),none):=by
 refine aC rfl Try.ntmps106 Try.results106 ?_
 unfold gz at hh
 try simp only[w,seval]
 obtain⟨o4,ho4,hh⟩:=ah hh
 refine aB (fun s t H e=>match s with|s3a=>t 0=.sl false false p0.length (ae (eI .i64) p0)∧t 3=.int .i64 s3a) (fun o x t H e=>match o with|s3ax=>x=.exit 0∧t 0=.sl false false p0.length (ae (eI .i64) p0)∧t 3=.int .i64 s3ax) ho4 ?_ ?_ ?_
 ·refine⟨?_,?_⟩
  all_goals first|rfl|(simp only[w,seval]<;>rfl)
 ·rintro s3a t H e Za c hh
  simp only[tW]at hh
  try simp only[w,seval,Za]
  refine sp ec hh (fun _ hh =>?_) (fun _ hh =>?_)
  ·obtain⟨x6,hx6,hh⟩:=ah hh
   have ax6:=bK (eI .i64) hx6
   simp only[bC]at ax6
   try simp only[w,seval,Za,ax6]
   refine sp aq hh (fun _ hh =>?_) (fun _ hh =>?_)
   ·cases hh
    try simp only[w,seval,Za,ax6]
    refine jz ?_
    refine⟨?_,?_⟩
    all_goals first|rfl|(simp only[w,seval,Za,ax6]<;>rfl)
   ·cases hh
    try simp only[w,seval,Za,ax6]
    refine kK ?_
    refine⟨rfl,⟨?_,?_⟩⟩
    all_goals first|rfl|(simp only[w,seval,Za,ax6]<;>rfl)
  ·cases hh
   try simp only[w,seval,Za]
   refine kK ?_
   refine⟨rfl,⟨?_,?_⟩⟩
   all_goals first|rfl|(simp only[w,seval,Za]<;>rfl)
 ·rintro x t H e hx
  obtain⟨s3ax,rfl⟩:∃z,z=o4:=⟨_,rfl⟩
  dsimp only at hx hh
  obtain⟨rfl,Zax⟩:=hx
  obtain⟨x8,hx8,hh⟩:=ah hh
  obtain⟨q9a,q9b,q9c,q9d,q9e⟩:=Jj (eI .i64) hx8
  simp only[bC]at q9e
  obtain⟨x10,hx10,hh⟩:=ah hh
  obtain⟨q11a,q11b,q11c⟩:=xe hx10
  replace q11a:=q11a.symm
  subst q11a
  cases hh
  try simp only[w,seval,Zax,q9a,q9b,q9c,q9d,q9e,q11b,q11c]
theorem mZ:bX Try.prog 106 kj:=bX.of (mode := .clean) tok bB.none mixed Try.func106 (by kernel_rfl) ⟨by kernel_rfl,by kernel_rfl⟩ (fun _=>aeX (by kernel_rfl)) (fun x r h=>PI x r h)
noncomputable def l3:=fR (iO (aI .i64) (fO (nc (eI .i64)))) (fun x:Int×(List Int)=>gx x.1 x.2) (fun r:al =>.clean (.agg [.int .i64 r.ag,.sl false false r.aa.length (ae (eI .i64) r.aa)]))
theorem jm (p0:Int) (p1:(List Int)):l3 none [.int .i64 p0,.sl false false p1.length (ae (eI .i64) p1)]=(gx p0 p1).map fun r:al=>(.clean (.agg [.int .i64 r.ag,.sl false false r.aa.length (ae (eI .i64) r.aa)]),none):=aU _ _ _ (p0,p1)
noncomputable def rG:Env:=(Am.ext a7 106 false kj)
theorem Lr:bB Try.prog rG:=(bB.none.add mZ false)
theorem wZ:type_of% (ai @w<|ai @fG<|@rG.eq_1):=⟨@w,@fG,@rG.eq_1⟩
theorem PF (p0:Int) (p1:(List Int)) (r:al) (hh:gx p0 p1=some r):ba .clean tab rG FU Try.f86 none [.int .i64 p0,.sl false false p1.length (ae (eI .i64) p1)]=some (.clean (.agg [.int .i64 r.ag,.sl false false r.aa.length (ae (eI .i64) r.aa)]),none):=by
 refine aC rfl Try.ntmps86 Try.results86 ?_
 unfold gx at hh
 obtain⟨r1,hr1,hh⟩:=ah hh
 try simp only[wZ,seval,hr1]
 refine sp aq hh (fun _ hh =>?_) (fun _ hh =>?_)
 ·cases hh
  try simp only[wZ,seval,hr1]
 ·cases hh
  try simp only[wZ,seval,hr1]
theorem pE:bX Try.prog 86 l3:=bX.of (mode := .clean) tok Lr mixed Try.func86 (by kernel_rfl) ⟨by kernel_rfl,by kernel_rfl⟩ (fun _=>aeX (by kernel_rfl)) (fun x r h=>PF x.1 x.2 r h)
noncomputable def w7:=fR (fO (aI .i64)) (fun x:Int=>sa x) (fun r:al =>.clean (.agg [.int .i64 r.ag,.sl false false r.aa.length (ae (eI .i64) r.aa)]))
theorem xV (p0:Int):w7 none [.int .i64 p0]=(sa p0).map fun r:al=>(.clean (.agg [.int .i64 r.ag,.sl false false r.aa.length (ae (eI .i64) r.aa)]),none):=aU _ _ _ (p0)
noncomputable def xB:Env:=(Am.ext a7 86 false l3)
theorem TD:bB Try.prog xB:=(bB.none.add pE false)
theorem ee:type_of% (ai @w<|ai @jm<|@xB.eq_1):=⟨@w,@jm,@xB.eq_1⟩
theorem Wh (p0:Int) (r:al) (hh:sa p0=some r):ba .clean tab xB FU Try.f58 none [.int .i64 p0]=some (.clean (.agg [.int .i64 r.ag,.sl false false r.aa.length (ae (eI .i64) r.aa)]),none):=by
 refine aC rfl Try.ntmps58 Try.results58 ?_
 unfold sa at hh
 try simp only[ee,seval]
 refine sp aq hh (fun _ hh =>?_) (fun _ hh =>?_)
 ·cases hh
  try simp only[ee,seval]
 ·try simp only[ee,seval]
  obtain⟨o2,ho2,hh⟩:=ah hh
  refine j5 0 (fun s t H e=>match s with|s3j1=>∃v2j1:Nat,t 0=.int .i64 p0∧t 2=.ptr 2 v2j1 0∧t 3=.int .i64 s3j1∧H 2=some ⟨v2j1,39,[.int .i64 0,.sl true true 0 []],false,false,false⟩) (fun s=>s=o2) ?_ ?_
  ·rintro s3j1 t H e ⟨v2j1,Zj1⟩ rfl
   try dsimp only at hh
   try simp only[ee,seval,Zj1]
   obtain⟨o15,ho15,hh⟩:=ah hh
   refine aB (fun s t H e=>match s with|(s0b,l4b)=>∃v2b:Nat,∃v4b:Nat,t 0=.int .i64 s0b∧t 2=.ptr 2 v2b 0∧t 3=.int .i64 s3j1∧t 4=.buf 4 v4b 1 0 (l4b).length∧H 2=some ⟨v2b,39,[.int .i64 0,.sl true true 0 []],false,false,false⟩∧H 4=some ⟨v4b,3,ae (eI .i64) l4b,false,true,false⟩) (fun o x t H e=>match o with|l4bx=>x=.exit 0∧∃v2bx:Nat,∃v4bx:Nat,t 2=.ptr 2 v2bx 0∧t 3=.int .i64 s3j1∧t 4=.buf 4 v4bx 1 0 (l4bx).length∧H 2=some ⟨v2bx,39,[.int .i64 0,.sl true true 0 []],false,false,false⟩∧H 4=some ⟨v4bx,3,ae (eI .i64) l4bx,false,true,false⟩) ho15 ?_ ?_ ?_
   ·refine⟨v2j1,e,?_,?_,?_,?_,?_,?_⟩
    all_goals first|rfl|(simp only[ee,seval,Zj1]<;>rfl)
   ·rintro⟨s0b,l4b⟩ t H e ⟨v2b,v4b,Zb⟩ c hh
    simp only[vg]at hh
    try simp only[ee,seval,Zb]
    refine sp aq hh (fun _ hh =>?_) (fun _ hh =>?_)
    ·obtain⟨x17,hx17,hh⟩:=ah hh
     have q18:=u3 hx17
     try simp only[ee,seval,Zb,q18]
     refine sp aq hh (fun _ hh =>?_) (fun _ hh =>?_)
     ·obtain⟨x20,hx20,hh⟩:=ah hh
      obtain⟨q21a,q21b,q21c,q21d⟩:=iS (eI .i64) hx20
      simp only[bC]at q21b
      obtain⟨x22,hx22,hh⟩:=ah hh
      have q23:=rh hx22
      cases hh
      try simp only[ee,seval,Zb,q18,q21a,q21b,q21c,q21d,q23]
      refine jz ?_
      refine⟨v2b,e+1+1+1+1,?_,?_,?_,?_,?_,?_⟩
      all_goals first|rfl|(simp only[ee,seval,Zb,q18,q21a,q21b,q21c,q21d,q23]<;>rfl)
     ·obtain⟨x24,hx24,hh⟩:=ah hh
      obtain⟨q25a,q25b,q25c,q25d⟩:=iS (eI .i64) hx24
      simp only[bC]at q25b
      obtain⟨x26,hx26,hh⟩:=ah hh
      have q27:=rh hx26
      cases hh
      try simp only[ee,seval,Zb,q18,q25a,q25b,q25c,q25d,q27]
      refine jz ?_
      refine⟨v2b,e+1+1+1,?_,?_,?_,?_,?_,?_⟩
      all_goals first|rfl|(simp only[ee,seval,Zb,q18,q25a,q25b,q25c,q25d,q27]<;>rfl)
    ·cases hh
     try simp only[ee,seval,Zb]
     refine kK ?_
     refine⟨rfl,⟨v2b,v4b,?_,?_,?_,?_,?_⟩⟩
     all_goals first|rfl|(simp only[ee,seval,Zb]<;>rfl)
   ·rintro x t H e hx
    obtain⟨l4bx,rfl⟩:∃z,z=o15:=⟨_,rfl⟩
    dsimp only at hx hh
    obtain⟨rfl,⟨v2bx,v4bx,Zbx⟩⟩:=hx
    obtain⟨r28,hr28,hh⟩:=ah hh
    cases hh
    try simp only[ee,seval,Zbx,hr28]
  ·clear hh
   have hh:=ho2
   try simp only[ee,seval]
   refine sp aq hh (fun _ hh =>?_) (fun _ hh =>?_)
   ·cases hh
    try simp only[ee,seval]
    rw[au]
    refine⟨_,rfl,?_⟩
    refine⟨0,?_,?_,?_,?_⟩
    all_goals first|rfl|(simp only[ee,seval]<;>rfl)
   ·cases hh
    try simp only[ee,seval]
    rw[au]
    refine⟨_,rfl,?_⟩
    refine⟨0,?_,?_,?_,?_⟩
    all_goals first|rfl|(simp only[ee,seval]<;>rfl)
theorem GS:bX Try.prog 58 w7:=bX.of (mode := .clean) tok TD mixed Try.func58 (by kernel_rfl) ⟨by kernel_rfl,by kernel_rfl⟩ (fun _=>aeX (by kernel_rfl)) (fun x r h=>Wh x r h)
noncomputable def gY:=fR (fO (cN eo)) (fun x:al=>dp x) (fun r:Bool =>.clean (.bool r))
theorem ep (p0_0:Int) (p0_1:(List Int)):gY none [.agg [.int .i64 p0_0,.sl false false p0_1.length (ae (eI .i64) p0_1)]]=(dp (al.mk p0_0 p0_1)).map fun r:Bool=>(.clean (.bool r),none):=aU _ _ _ ((al.mk p0_0 p0_1))
theorem MA (p0:al) (r:Bool) (hh:dp p0=some r):ba .clean tab a7 FU Try.f55 none [.agg [.int .i64 p0.ag,.sl false false p0.aa.length (ae (eI .i64) p0.aa)]]=some (.clean (.bool r),none):=by
 refine aC rfl Try.ntmps55 Try.results55 ?_
 unfold dp at hh
 try simp only[w,seval]
 obtain⟨o5,ho5,hh⟩:=ah hh
 refine aB (fun s t H e=>match s with|s3a=>∃v1a:Nat,t 1=.ptr 1 v1a 0∧t 3=.int .i64 s3a∧H 1=some ⟨v1a,39,[.int .i64 p0.ag,.sl false false p0.aa.length (ae (eI .i64) p0.aa)],false,false,false⟩) (fun o x t H e=>match o with|(.inl _)=>x=.exit 0∧∃v1ax:Nat,t 1=.ptr 1 v1ax 0∧H 1=some ⟨v1ax,39,[.int .i64 p0.ag,.sl false false p0.aa.length (ae (eI .i64) p0.aa)],false,false,false⟩|(.inr r)=>x=.ret∧jd .clean tab none [.tmp 2] ⟨t,EH H,e⟩=some (.clean (.bool r),none)) ho5 ?_ ?_ ?_
 ·refine⟨0,?_,?_,?_⟩
  all_goals first|rfl|(simp only[w,seval]<;>rfl)
 ·rintro s3a t H e ⟨v1a,Za⟩ c hh
  simp only[nP]at hh
  try simp only[w,seval,Za]
  refine sp aq hh (fun _ hh =>?_) (fun _ hh =>?_)
  ·obtain⟨x7,hx7,hh⟩:=ah hh
   have ax7:=bK (eI .i64) hx7
   simp only[bC]at ax7
   try simp only[w,seval,Za,ax7]
   refine sp bc hh (fun _ hh =>?_) (fun _ hh =>?_)
   ·cases hh
    try simp only[w,seval,Za,ax7]
    refine IG ⟨rfl,?_⟩
    try simp only[w,seval,Za,ax7]
   ·have ax7:=bK (eI .i64) hx7
    simp only[bC]at ax7
    try simp only[w,seval,Za,ax7,ax7]
    refine sp aq hh (fun _ hh =>?_) (fun _ hh =>?_)
    ·cases hh
     try simp only[w,seval,Za,ax7,ax7]
     refine IG ⟨rfl,?_⟩
     try simp only[w,seval,Za,ax7,ax7]
    ·cases hh
     try simp only[w,seval,Za,ax7,ax7]
     refine jz ?_
     refine⟨v1a,?_,?_,?_⟩
     all_goals first|rfl|(simp only[w,seval,Za,ax7,ax7]<;>rfl)
  ·cases hh
   try simp only[w,seval,Za]
   refine kK ?_
   refine⟨rfl,⟨v1a,?_,?_⟩⟩
   all_goals first|rfl|(simp only[w,seval,Za]<;>rfl)
 ·rintro x t H e hx
  rcases o5 with _|ra
  ·dsimp only at hx hh
   obtain⟨rfl,⟨v1ax,Zax⟩⟩:=hx
   try simp only[w,seval,Zax]
   obtain⟨o10,ho10,hh⟩:=ah hh
   refine bF 0 (fun s t H e=>match s with|s44j2=>∃v1j2:Nat,t 1=.ptr 1 v1j2 0∧t 4=.int .i64 (p0.aa.length:Int)∧t 44=.bool s44j2∧H 1=some ⟨v1j2,39,[.int .i64 p0.ag,.sl false false p0.aa.length (ae (eI .i64) p0.aa)],false,false,false⟩) (fun s=>s=o10) ?_ ?_
   ·rintro s44j2 t H e ⟨v1j2,Zj2⟩ rfl
    try dsimp only at hh
    try simp only[w,seval,Zj2]
    refine sp aq hh (fun _ hh =>?_) (fun _ hh =>?_)
    ·cases hh
     try simp only[w,seval,Zj2]
    ·try simp only[w,seval,Zj2]
     refine sp bc hh (fun _ hh =>?_) (fun _ hh =>?_)
     ·cases hh
      try simp only[w,seval,Zj2]
     ·obtain⟨x13,hx13,hh⟩:=ah hh
      have ax13:=bK (eI .i64) hx13
      simp only[bC]at ax13
      cases hh
      try simp only[w,seval,Zj2,ax13]
   ·clear hh
    have hh:=ho10
    try simp only[w,seval,Zax]
    refine sp bc hh (fun _ hh =>?_) (fun _ hh =>?_)
    ·cases hh
     try simp only[w,seval,Zax]
     rw[au]
     refine⟨_,rfl,?_⟩
     refine⟨v1ax,?_,?_,?_,?_⟩
     all_goals first|rfl|(simp only[w,seval,Zax]<;>rfl)
    ·try simp only[w,seval,Zax]
     refine sp bc hh (fun _ hh =>?_) (fun _ hh =>?_)
     ·cases hh
      try simp only[w,seval,Zax]
      rw[au]
      refine⟨_,rfl,?_⟩
      refine⟨v1ax,?_,?_,?_,?_⟩
      all_goals first|rfl|(simp only[w,seval,Zax]<;>rfl)
     ·cases hh
      try simp only[w,seval,Zax]
      rw[au]
      refine⟨_,rfl,?_⟩
      refine⟨v1ax,?_,?_,?_,?_⟩
      all_goals first|rfl|(simp only[w,seval,Zax]<;>rfl)
  ·dsimp only at hx hh
   obtain⟨rfl,hE⟩:=hx
   cases hh
   try simp only[bO,bE,bV,ey,ew,dm,dn]
   exact hE
theorem jI:bX Try.prog 55 gY:=bX.of (mode := .clean) tok bB.none mixed Try.func55 (by kernel_rfl) ⟨by kernel_rfl,by kernel_rfl⟩ (fun _=>aeX (by kernel_rfl)) (fun x r h=>MA x r h)
noncomputable def yz:=fR (fO (cN eo)) (fun x:al=>vf x) (fun r:al =>.clean (.agg [.int .i64 r.ag,.sl false false r.aa.length (ae (eI .i64) r.aa)]))
theorem G7 (p0_0:Int) (p0_1:(List Int)):yz none [.agg [.int .i64 p0_0,.sl false false p0_1.length (ae (eI .i64) p0_1)]]=(vf (al.mk p0_0 p0_1)).map fun r:al=>(.clean (.agg [.int .i64 r.ag,.sl false false r.aa.length (ae (eI .i64) r.aa)]),none):=aU _ _ _ ((al.mk p0_0 p0_1))
noncomputable def uV:Env:=(Am.ext (Am.ext a7 55 false gY) 86 false l3)
theorem Pg:bB Try.prog uV:=((bB.none.add jI false).add pE false)
theorem zk:type_of% (ai @w<|ai @ep<|ai @jm<|@uV.eq_1):=⟨@w,@ep,@jm,@uV.eq_1⟩
theorem T0 (p0:al) (r:al) (hh:vf p0=some r):ba .clean tab uV FU Try.f100 none [.agg [.int .i64 p0.ag,.sl false false p0.aa.length (ae (eI .i64) p0.aa)]]=some (.clean (.agg [.int .i64 r.ag,.sl false false r.aa.length (ae (eI .i64) r.aa)]),none):=by
 refine aC rfl Try.ntmps100 Try.results100 ?_
 unfold vf at hh
 obtain⟨r1,hr1,hh⟩:=ah hh
 try simp only[zk,seval,hr1]
 refine sp aq hh (fun _ hh =>?_) (fun _ hh =>?_)
 ·cases hh
  try simp only[zk,seval,hr1]
 ·obtain⟨r3,hr3,hh⟩:=ah hh
  cases hh
  try simp only[zk,seval,hr1,hr3]
theorem PX:bX Try.prog 100 yz:=bX.of (mode := .clean) tok Pg mixed Try.func100 (by kernel_rfl) ⟨by kernel_rfl,by kernel_rfl⟩ (fun _=>aeX (by kernel_rfl)) (fun x r h=>T0 x r h)
noncomputable def kD:=fR (iO (nc (eI .i64)) (fO (aI .i64))) (fun x:(List Int)×Int=>gf x.1 x.2) (fun r:Int =>.clean (.int .i64 r))
theorem ib (p0:(List Int)) (p1:Int):kD none [.sl false false p0.length (ae (eI .i64) p0),.int .i64 p1]=(gf p0 p1).map fun r:Int=>(.clean (.int .i64 r),none):=aU _ _ _ (p0,p1)
theorem MB (p0:(List Int)) (p1:Int) (r:Int) (hh:gf p0 p1=some r):ba .clean tab a7 FU Try.f109 none [.sl false false p0.length (ae (eI .i64) p0),.int .i64 p1]=some (.clean (.int .i64 r),none):=by
 refine aC rfl Try.ntmps109 Try.results109 ?_
 unfold gf at hh
 try simp only[w,seval]
 refine sp aq hh (fun _ hh =>?_) (fun _ hh =>?_)
 ·obtain⟨x2,hx2,hh⟩:=ah hh
  have ax2:=bK (eI .i64) hx2
  simp only[bC]at ax2
  cases hh
  try simp only[w,seval,ax2]
 ·cases hh
  try simp only[w,seval]
theorem nN:bX Try.prog 109 kD:=bX.of (mode := .clean) tok bB.none mixed Try.func109 (by kernel_rfl) ⟨by kernel_rfl,by kernel_rfl⟩ (fun _=>aeX (by kernel_rfl)) (fun x r h=>MB x.1 x.2 r h)
noncomputable def s6:=fR (iO (nc (eI .i64)) (fO (nc (eI .i64)))) (fun x:(List Int)×(List Int)=>kS x.1 x.2) (fun r:(List Int) =>.clean (.sl false false r.length (ae (eI .i64) r)))
theorem tU (p0:(List Int)) (p1:(List Int)):s6 none [.sl false false p0.length (ae (eI .i64) p0),.sl false false p1.length (ae (eI .i64) p1)]=(kS p0 p1).map fun r:(List Int)=>(.clean (.sl false false r.length (ae (eI .i64) r)),none):=aU _ _ _ (p0,p1)
noncomputable def pz:Env:=(Am.ext (Am.ext a7 106 false kj) 109 false kD)
theorem Iz:bB Try.prog pz:=((bB.none.add mZ false).add nN false)
theorem bP:type_of% (ai @w<|ai @fG<|ai @ib<|@pz.eq_1):=⟨@w,@fG,@ib,@pz.eq_1⟩
theorem MD (p0:(List Int)) (p1:(List Int)) (r:(List Int)) (hh:kS p0 p1=some r):ba .clean tab pz FU Try.f107 none [.sl false false p0.length (ae (eI .i64) p0),.sl false false p1.length (ae (eI .i64) p1)]=some (.clean (.sl false false r.length (ae (eI .i64) r)),none):=by
 refine aC rfl Try.ntmps107 Try.results107 ?_
 unfold kS at hh
 obtain⟨x1,hx1,hh⟩:=ah hh
 obtain⟨q2a,q2b,q2c,q2d,q2e⟩:=mk_one (eI .i64) hx1
 simp only[bC]at q2d
 try simp only[bP,seval,q2a,q2b,q2c,q2d,q2e]
 obtain⟨o27,ho27,hh⟩:=ah hh
 refine aB (fun s t H e=>match s with|(s6a,l5a)=>∃v5a:Nat,t 0=.sl false false p0.length (ae (eI .i64) p0)∧t 1=.sl false false p1.length (ae (eI .i64) p1)∧t 5=.buf 5 v5a 1 0 (l5a).length∧t 6=.int .i64 s6a∧H 5=some ⟨v5a,3,ae (eI .i64) l5a,false,true,false⟩) (fun o x t H e=>match o with|l5ax=>x=.exit 0∧∃v5ax:Nat,t 5=.buf 5 v5ax 1 0 (l5ax).length∧H 5=some ⟨v5ax,3,ae (eI .i64) l5ax,false,true,false⟩) ho27 ?_ ?_ ?_
 ·refine⟨1,?_,?_,?_,?_,?_⟩
  all_goals first|rfl|(simp only[bP,seval,q2a,q2b,q2c,q2d,q2e]<;>rfl)
 ·rintro⟨s6a,l5a⟩ t H e ⟨v5a,Za⟩ c hh
  simp only[nR]at hh
  try simp only[bP,seval,q2a,q2b,q2c,q2d,q2e,Za]
  refine sp aq hh (fun _ hh =>?_) (fun _ hh =>?_)
  ·try simp only[bP,seval,q2a,q2b,q2c,q2d,q2e,Za]
   obtain⟨o40,ho40,hh⟩:=ah hh
   refine aB (fun s t H e=>match s with|(s7e,s8e,l5e)=>∃v5e:Nat,t 0=.sl false false p0.length (ae (eI .i64) p0)∧t 1=.sl false false p1.length (ae (eI .i64) p1)∧t 5=.buf 5 v5e 1 0 (l5e).length∧t 6=.int .i64 s6a∧t 7=.int .i64 s7e∧t 8=.int .i64 s8e∧H 5=some ⟨v5e,3,ae (eI .i64) l5e,false,true,false⟩) (fun o x t H e=>match o with|l5ex=>x=.exit 2∧∃v5ex:Nat,t 0=.sl false false p0.length (ae (eI .i64) p0)∧t 1=.sl false false p1.length (ae (eI .i64) p1)∧t 5=.buf 5 v5ex 1 0 (l5ex).length∧t 6=.int .i64 s6a∧H 5=some ⟨v5ex,3,ae (eI .i64) l5ex,false,true,false⟩) ho40 ?_ ?_ ?_
   ·refine⟨v5a,?_,?_,?_,?_,?_,?_,?_⟩
    all_goals first|rfl|(simp only[bP,seval,q2a,q2b,q2c,q2d,q2e,Za]<;>rfl)
   ·rintro⟨s7e,s8e,l5e⟩ t H e ⟨v5e,Ze⟩ c hh
    simp only[nS]at hh
    try simp only[bP,seval,q2a,q2b,q2c,q2d,q2e,Ze]
    obtain⟨o41,ho41,hh⟩:=ah hh
    refine bF 0 (fun s t H e=>match s with|s29j7=>∃v5j7:Nat,t 0=.sl false false p0.length (ae (eI .i64) p0)∧t 1=.sl false false p1.length (ae (eI .i64) p1)∧t 5=.buf 5 v5j7 1 0 (l5e).length∧t 6=.int .i64 s6a∧t 7=.int .i64 s7e∧t 8=.int .i64 s8e∧t 29=.bool s29j7∧H 5=some ⟨v5j7,3,ae (eI .i64) l5e,false,true,false⟩) (fun s=>s=o41) ?_ ?_
    ·rintro s29j7 t H e ⟨v5j7,Zj7⟩ rfl
     try dsimp only at hh
     try simp only[bP,seval,q2a,q2b,q2c,q2d,q2e,Zj7]
     refine sp aq hh (fun _ hh =>?_) (fun _ hh =>?_)
     ·obtain⟨x43,hx43,hh⟩:=ah hh
      have ax43:=bK (eI .i64) hx43
      simp only[bC]at ax43
      obtain⟨x44,hx44,hh⟩:=ah hh
      have ax44:=bK (eI .i64) hx44
      simp only[bC]at ax44
      obtain⟨r45,hr45,hh⟩:=ah hh
      try simp only[bP,seval,q2a,q2b,q2c,q2d,q2e,Zj7,ax43,ax44,hr45]
      refine bn (by kernel_rfl) ?_
      obtain⟨x46,hx46,hh⟩:=ah hh
      have q47:=u3 hx46
      have ax43:=bK (eI .i64) hx43
      simp only[bC]at ax43
      have p48:=dZ (eI .i64) (x':=x46) (fo:=0) (cs:=[.int .i64 x46]) hx43 rfl (aeX rfl)
      simp only[bC,Nat.add_zero]at p48
      have up48:=p48
      simp only[putCells,List.length_cons,List.length_nil,ad4,Nat.reduceAdd]at up48
      obtain⟨x49,hx49,hh⟩:=ah hh
      have q50:=rh hx49
      cases hh
      try simp only[bP,seval,q2a,q2b,q2c,q2d,q2e,Zj7,ax43,ax44,hr45,q47,ax43,p48,up48,q50]
      refine jz ?_
      refine⟨v5j7,?_,?_,?_,?_,?_,?_,?_⟩
      all_goals first|rfl|(simp only[bP,seval,q2a,q2b,q2c,q2d,q2e,Zj7,ax43,ax44,hr45,q47,ax43,p48,up48,q50]<;>rfl)
     ·cases hh
      try simp only[bP,seval,q2a,q2b,q2c,q2d,q2e,Zj7]
      refine kK ?_
      refine⟨rfl,⟨v5j7,?_,?_,?_,?_,?_⟩⟩
      all_goals first|rfl|(simp only[bP,seval,q2a,q2b,q2c,q2d,q2e,Zj7]<;>rfl)
    ·clear hh
     have hh:=ho41
     try simp only[bP,seval,q2a,q2b,q2c,q2d,q2e,Ze]
     refine sp bc hh (fun _ hh =>?_) (fun _ hh =>?_)
     ·cases hh
      try simp only[bP,seval,q2a,q2b,q2c,q2d,q2e,Ze]
      rw[au]
      refine⟨_,rfl,?_⟩
      refine⟨v5e,?_,?_,?_,?_,?_,?_,?_,?_⟩
      all_goals first|rfl|(simp only[bP,seval,q2a,q2b,q2c,q2d,q2e,Ze]<;>rfl)
     ·cases hh
      try simp only[bP,seval,q2a,q2b,q2c,q2d,q2e,Ze]
      rw[au]
      refine⟨_,rfl,?_⟩
      refine⟨v5e,?_,?_,?_,?_,?_,?_,?_,?_⟩
      all_goals first|rfl|(simp only[bP,seval,q2a,q2b,q2c,q2d,q2e,Ze]<;>rfl)
   ·rintro x t H e hx
    obtain⟨l5ex,rfl⟩:∃z,z=o40:=⟨_,rfl⟩
    dsimp only at hx hh
    obtain⟨rfl,⟨v5ex,Zex⟩⟩:=hx
    cases hh
    try simp only[bP,seval,q2a,q2b,q2c,q2d,q2e,Zex]
    refine jz ?_
    refine⟨v5ex,?_,?_,?_,?_,?_⟩
    all_goals first|rfl|(simp only[bP,seval,q2a,q2b,q2c,q2d,q2e,Zex]<;>rfl)
  ·cases hh
   try simp only[bP,seval,q2a,q2b,q2c,q2d,q2e,Za]
   refine kK ?_
   refine⟨rfl,⟨v5a,?_,?_⟩⟩
   all_goals first|rfl|(simp only[bP,seval,q2a,q2b,q2c,q2d,q2e,Za]<;>rfl)
 ·rintro x t H e hx
  obtain⟨l5ax,rfl⟩:∃z,z=o27:=⟨_,rfl⟩
  dsimp only at hx hh
  obtain⟨rfl,⟨v5ax,Zax⟩⟩:=hx
  obtain⟨r52,hr52,hh⟩:=ah hh
  cases hh
  try simp only[bP,seval,q2a,q2b,q2c,q2d,q2e,Zax,hr52]
theorem I5:bX Try.prog 107 s6:=bX.of (mode := .clean) tok Iz mixed Try.func107 (by kernel_rfl) ⟨by kernel_rfl,by kernel_rfl⟩ (fun _=>aeX (by kernel_rfl)) (fun x r h=>MD x.1 x.2 r h)
noncomputable def qK:=fR (iO (nc (eI .i64)) (fO (nc (eI .i64)))) (fun x:(List Int)×(List Int)=>m0 x.1 x.2) (fun r:Bool =>.clean (.bool r))
theorem rX (p0:(List Int)) (p1:(List Int)):qK none [.sl false false p0.length (ae (eI .i64) p0),.sl false false p1.length (ae (eI .i64) p1)]=(m0 p0 p1).map fun r:Bool=>(.clean (.bool r),none):=aU _ _ _ (p0,p1)
noncomputable def rF:Env:=(Am.ext a7 109 false kD)
theorem Lq:bB Try.prog rF:=(bB.none.add nN false)
theorem gI:type_of% (ai @w<|ai @ib<|@rF.eq_1):=⟨@w,@ib,@rF.eq_1⟩
theorem PE (p0:(List Int)) (p1:(List Int)) (r:Bool) (hh:m0 p0 p1=some r):ba .clean tab rF FU Try.f88 none [.sl false false p0.length (ae (eI .i64) p0),.sl false false p1.length (ae (eI .i64) p1)]=some (.clean (.bool r),none):=by
 refine aC rfl Try.ntmps88 Try.results88 ?_
 unfold m0 at hh
 try simp only[gI,seval]
 obtain⟨o5,ho5,hh⟩:=ah hh
 refine aB (fun s t H e=>match s with|s5a=>t 0=.sl false false p0.length (ae (eI .i64) p0)∧t 1=.sl false false p1.length (ae (eI .i64) p1)∧t 5=.int .i64 s5a) (fun o x t H e=>match o with|(.inl _)=>x=.exit 0|(.inr r)=>x=.ret∧jd .clean tab none [.tmp 4] ⟨t,EH H,e⟩=some (.clean (.bool r),none)) ho5 ?_ ?_ ?_
 ·refine⟨?_,?_,?_⟩
  all_goals first|rfl|(simp only[gI,seval]<;>rfl)
 ·rintro s5a t H e Za c hh
  simp only[pN]at hh
  try simp only[gI,seval,Za]
  refine sp aq hh (fun _ hh =>?_) (fun _ hh =>?_)
  ·obtain⟨r7,hr7,hh⟩:=ah hh
   obtain⟨r8,hr8,hh⟩:=ah hh
   try simp only[gI,seval,Za,hr7,hr8]
   refine sp aq hh (fun _ hh =>?_) (fun _ hh =>?_)
   ·cases hh
    try simp only[gI,seval,Za,hr7,hr8]
    refine IG ⟨rfl,?_⟩
    try simp only[gI,seval,Za,hr7,hr8]
   ·cases hh
    try simp only[gI,seval,Za,hr7,hr8]
    refine jz ?_
    refine⟨?_,?_,?_⟩
    all_goals first|rfl|(simp only[gI,seval,Za,hr7,hr8]<;>rfl)
  ·cases hh
   try simp only[gI,seval,Za]
   refine kK ?_
   exact rfl
 ·rintro x t H e hx
  rcases o5 with _|ra
  ·dsimp only at hx hh
   subst hx
   cases hh
   try simp only[gI,seval]
  ·dsimp only at hx hh
   obtain⟨rfl,hE⟩:=hx
   cases hh
   try simp only[bO,bE,bV,ey,ew,dm,dn]
   exact hE
theorem Aa:bX Try.prog 88 qK:=bX.of (mode := .clean) tok Lq mixed Try.func88 (by kernel_rfl) ⟨by kernel_rfl,by kernel_rfl⟩ (fun _=>aeX (by kernel_rfl)) (fun x r h=>PE x.1 x.2 r h)
noncomputable def o0:=fR (iO (nc (eI .i64)) (fO (nc (eI .i64)))) (fun x:(List Int)×(List Int)=>kR x.1 x.2) (fun r:(List Int) =>.clean (.sl false false r.length (ae (eI .i64) r)))
theorem pI (p0:(List Int)) (p1:(List Int)):o0 none [.sl false false p0.length (ae (eI .i64) p0),.sl false false p1.length (ae (eI .i64) p1)]=(kR p0 p1).map fun r:(List Int)=>(.clean (.sl false false r.length (ae (eI .i64) r)),none):=aU _ _ _ (p0,p1)
noncomputable def py:Env:=(Am.ext (Am.ext a7 106 false kj) 109 false kD)
theorem Iy:bB Try.prog py:=((bB.none.add mZ false).add nN false)
theorem er:type_of% (ai @w<|ai @fG<|ai @ib<|@py.eq_1):=⟨@w,@fG,@ib,@py.eq_1⟩
theorem MC (p0:(List Int)) (p1:(List Int)) (r:(List Int)) (hh:kR p0 p1=some r):ba .clean tab py FU Try.f108 none [.sl false false p0.length (ae (eI .i64) p0),.sl false false p1.length (ae (eI .i64) p1)]=some (.clean (.sl false false r.length (ae (eI .i64) r)),none):=by
 refine aC rfl Try.ntmps108 Try.results108 ?_
 unfold kR at hh
 try simp only[er,seval]
 obtain⟨o9,ho9,hh⟩:=ah hh
 refine aB (fun s t H e=>match s with|(s6a,s7a,l5a)=>∃v5a:Nat,t 0=.sl false false p0.length (ae (eI .i64) p0)∧t 1=.sl false false p1.length (ae (eI .i64) p1)∧t 5=.buf 5 v5a 1 0 (l5a).length∧t 6=.int .i64 s6a∧t 7=.int .i64 s7a∧H 5=some ⟨v5a,3,ae (eI .i64) l5a,false,true,false⟩) (fun o x t H e=>match o with|l5ax=>x=.exit 0∧∃v5ax:Nat,t 5=.buf 5 v5ax 1 0 (l5ax).length∧H 5=some ⟨v5ax,3,ae (eI .i64) l5ax,false,true,false⟩) ho9 ?_ ?_ ?_
 ·refine⟨1,?_,?_,?_,?_,?_,?_⟩
  all_goals first|rfl|(simp only[er,seval]<;>rfl)
 ·rintro⟨s6a,s7a,l5a⟩ t H e ⟨v5a,Za⟩ c hh
  simp only[nQ]at hh
  try simp only[er,seval,Za]
  refine sp aq hh (fun _ hh =>?_) (fun _ hh =>?_)
  ·obtain⟨x11,hx11,hh⟩:=ah hh
   have ax11:=bK (eI .i64) hx11
   simp only[bC]at ax11
   obtain⟨r12,hr12,hh⟩:=ah hh
   try simp only[er,seval,Za,ax11,hr12]
   refine bn (by kernel_rfl) ?_
   try simp only[er,seval,Za,ax11,hr12]
   refine sp aq hh (fun _ hh =>?_) (fun _ hh =>?_)
   ·obtain⟨x14,hx14,hh⟩:=ah hh
    obtain⟨q15a,q15b,q15c,q15d⟩:=iS (eI .i64) hx14
    simp only[bC]at q15b
    cases hh
    try simp only[er,seval,Za,ax11,hr12,q15a,q15b,q15c,q15d]
    refine jz ?_
    refine⟨e+1+1+1+1+1+1,?_,?_,?_,?_,?_,?_⟩
    all_goals first|rfl|(simp only[er,seval,Za,ax11,hr12,q15a,q15b,q15c,q15d]<;>rfl)
   ·obtain⟨x16,hx16,hh⟩:=ah hh
    obtain⟨q17a,q17b,q17c,q17d⟩:=iS (eI .i64) hx16
    simp only[bC]at q17b
    cases hh
    try simp only[er,seval,Za,ax11,hr12,q17a,q17b,q17c,q17d]
    refine jz ?_
    refine⟨e+1+1+1+1,?_,?_,?_,?_,?_,?_⟩
    all_goals first|rfl|(simp only[er,seval,Za,ax11,hr12,q17a,q17b,q17c,q17d]<;>rfl)
  ·cases hh
   try simp only[er,seval,Za]
   refine kK ?_
   refine⟨rfl,⟨v5a,?_,?_⟩⟩
   all_goals first|rfl|(simp only[er,seval,Za]<;>rfl)
 ·rintro x t H e hx
  obtain⟨l5ax,rfl⟩:∃z,z=o9:=⟨_,rfl⟩
  dsimp only at hx hh
  obtain⟨rfl,⟨v5ax,Zax⟩⟩:=hx
  obtain⟨r18,hr18,hh⟩:=ah hh
  cases hh
  try simp only[er,seval,Zax,hr18]
theorem xR:bX Try.prog 108 o0:=bX.of (mode := .clean) tok Iy mixed Try.func108 (by kernel_rfl) ⟨by kernel_rfl,by kernel_rfl⟩ (fun _=>aeX (by kernel_rfl)) (fun x r h=>MC x.1 x.2 r h)
noncomputable def qL:=fR (iO (nc (eI .i64)) (fO (nc (eI .i64)))) (fun x:(List Int)×(List Int)=>m5 x.1 x.2) (fun r:(List Int)×(List Int) =>.clean (.tup [.sl false false r.1.length (ae (eI .i64) r.1),.sl false false r.2.length (ae (eI .i64) r.2)]))
theorem rY (p0:(List Int)) (p1:(List Int)):qL none [.sl false false p0.length (ae (eI .i64) p0),.sl false false p1.length (ae (eI .i64) p1)]=(m5 p0 p1).map fun r:(List Int)×(List Int)=>(.clean (.tup [.sl false false r.1.length (ae (eI .i64) r.1),.sl false false r.2.length (ae (eI .i64) r.2)]),none):=aU _ _ _ (p0,p1)
noncomputable def rH:Env:=(Am.keep 7 (Am.ext (Am.ext (Am.ext (Am.ext a7 88 false qK) 106 false kj) 107 false s6) 108 false o0))
theorem Ls:bB Try.prog rH:=(bB.keep ((((bB.none.add Aa false).add mZ false).add I5 false).add xR false) 7)
theorem cQ:type_of% (ai @w<|ai @rX<|ai @fG<|ai @tU<|ai @pI<|@rH.eq_1):=⟨@w,@rX,@fG,@tU,@pI,@rH.eq_1⟩
theorem PG (p0:(List Int)) (p1:(List Int)) (r:(List Int)×(List Int)) (hh:m5 p0 p1=some r):ba .clean tab rH FU Try.f85 none [.sl false false p0.length (ae (eI .i64) p0),.sl false false p1.length (ae (eI .i64) p1)]=some (.clean (.tup [.sl false false r.1.length (ae (eI .i64) r.1),.sl false false r.2.length (ae (eI .i64) r.2)]),none):=by
 refine aC rfl Try.ntmps85 Try.results85 ?_
 unfold m5 at hh
 obtain⟨x1,hx1,hh⟩:=ah hh
 obtain⟨q2a,q2b,q2c,q2d,q2e⟩:=mk_one (eI .i64) hx1
 simp only[bC]at q2d
 try simp only[cQ,seval,q2a,q2b,q2c,q2d,q2e]
 obtain⟨o29,ho29,hh⟩:=ah hh
 refine aB (fun s t H e=>match s with|(s7a,s8a,l6a)=>∃v6a:Nat,t 0=.sl false false p0.length (ae (eI .i64) p0)∧t 1=.sl false false p1.length (ae (eI .i64) p1)∧t 6=.buf 6 v6a 1 0 (l6a).length∧t 7=.sl false false s7a.length (ae (eI .i64) s7a)∧t 8=.int .i64 s8a∧H 6=some ⟨v6a,3,ae (eI .i64) l6a,false,true,false⟩) (fun o x t H e=>match o with|(s7ax,l6ax)=>x=.exit 0∧∃v6ax:Nat,t 6=.buf 6 v6ax 1 0 (l6ax).length∧t 7=.sl false false s7ax.length (ae (eI .i64) s7ax)∧H 6=some ⟨v6ax,3,ae (eI .i64) l6ax,false,true,false⟩) ho29 ?_ ?_ ?_
 ·refine⟨1,?_,?_,?_,?_,?_,?_⟩
  all_goals first|rfl|(simp only[cQ,seval,q2a,q2b,q2c,q2d,q2e]<;>rfl)
 ·rintro⟨s7a,s8a,l6a⟩ t H e ⟨v6a,Za⟩ c hh
  simp only[pO]at hh
  try simp only[cQ,seval,q2a,q2b,q2c,q2d,q2e,Za]
  refine sp aq hh (fun _ hh =>?_) (fun _ hh =>?_)
  ·obtain⟨x31,hx31,hh⟩:=ah hh
   have ax31:=bK (eI .i64) hx31
   simp only[bC]at ax31
   obtain⟨x32,hx32,hh⟩:=ah hh
   obtain⟨q33a,q33b,q33c,q33d⟩:=XT (eI .i64) hx32
   simp only[aJ,bC,List.length_cons,ad4,Nat.reduceAdd]at q33a q33b
   obtain⟨r34,hr34,hh⟩:=ah hh
   try simp only[cQ,seval,q2a,q2b,q2c,q2d,q2e,Za,ax31,q33a,q33b,q33c,q33d,hr34]
   obtain⟨o42,ho42,hh⟩:=ah hh
   refine aB (fun s t H e=>match s with|(s9c,s10c)=>∃v6c:Nat,t 0=.sl false false p0.length (ae (eI .i64) p0)∧t 1=.sl false false p1.length (ae (eI .i64) p1)∧t 6=.buf 6 v6c 1 0 (l6a).length∧t 7=.sl false false r34.length (ae (eI .i64) r34)∧t 8=.int .i64 s8a∧t 9=.int .i64 s9c∧t 10=.int .i64 s10c∧H 6=some ⟨v6c,3,ae (eI .i64) l6a,false,true,false⟩) (fun o x t H e=>match o with|s9cx=>x=.exit 2∧∃v6cx:Nat,t 0=.sl false false p0.length (ae (eI .i64) p0)∧t 1=.sl false false p1.length (ae (eI .i64) p1)∧t 6=.buf 6 v6cx 1 0 (l6a).length∧t 7=.sl false false r34.length (ae (eI .i64) r34)∧t 8=.int .i64 s8a∧t 9=.int .i64 s9cx∧H 6=some ⟨v6cx,3,ae (eI .i64) l6a,false,true,false⟩) ho42 ?_ ?_ ?_
   ·refine⟨v6a,?_,?_,?_,?_,?_,?_,?_,?_⟩
    all_goals first|rfl|(simp only[cQ,seval,q2a,q2b,q2c,q2d,q2e,Za,ax31,q33a,q33b,q33c,q33d,hr34]<;>rfl)
   ·rintro⟨s9c,s10c⟩ t H e ⟨v6c,Zc⟩ c hh
    simp only[m6]at hh
    try simp only[cQ,seval,q2a,q2b,q2c,q2d,q2e,ax31,q33a,q33b,q33c,q33d,hr34,Zc]
    refine sp aq hh (fun _ hh =>?_) (fun _ hh =>?_)
    ·obtain⟨x44,hx44,hh⟩:=ah hh
     have q45:=rh hx44
     have i46:=tU p1 ([x44])
     simp only[aJ,bC,List.length_cons,List.length_nil,ad4,Nat.reduceAdd,aff]at i46
     obtain⟨r47,hr47,hh⟩:=ah hh
     obtain⟨r48,hr48,hh⟩:=ah hh
     try simp only[cQ,seval,q2a,q2b,q2c,q2d,q2e,ax31,q33a,q33b,q33c,q33d,hr34,Zc,q45,i46,hr47,hr48]
     refine sp aq hh (fun _ hh =>?_) (fun _ hh =>?_)
     ·cases hh
      try simp only[cQ,seval,q2a,q2b,q2c,q2d,q2e,ax31,q33a,q33b,q33c,q33d,hr34,Zc,q45,i46,hr47,hr48]
      refine jz ?_
      refine⟨v6c,?_,?_,?_,?_,?_,?_,?_,?_⟩
      all_goals first|rfl|(simp only[cQ,seval,q2a,q2b,q2c,q2d,q2e,ax31,q33a,q33b,q33c,q33d,hr34,Zc,q45,i46,hr47,hr48]<;>rfl)
     ·cases hh
      try simp only[cQ,seval,q2a,q2b,q2c,q2d,q2e,ax31,q33a,q33b,q33c,q33d,hr34,Zc,q45,i46,hr47,hr48]
      refine jz ?_
      refine⟨v6c,?_,?_,?_,?_,?_,?_,?_,?_⟩
      all_goals first|rfl|(simp only[cQ,seval,q2a,q2b,q2c,q2d,q2e,ax31,q33a,q33b,q33c,q33d,hr34,Zc,q45,i46,hr47,hr48]<;>rfl)
    ·cases hh
     try simp only[cQ,seval,q2a,q2b,q2c,q2d,q2e,ax31,q33a,q33b,q33c,q33d,hr34,Zc]
     refine kK ?_
     refine⟨rfl,⟨v6c,?_,?_,?_,?_,?_,?_,?_⟩⟩
     all_goals first|rfl|(simp only[cQ,seval,q2a,q2b,q2c,q2d,q2e,ax31,q33a,q33b,q33c,q33d,hr34,Zc]<;>rfl)
   ·rintro x t H e hx
    obtain⟨s9cx,rfl⟩:∃z,z=o42:=⟨_,rfl⟩
    dsimp only at hx hh
    obtain⟨rfl,⟨v6cx,Zcx⟩⟩:=hx
    obtain⟨x50,hx50,hh⟩:=ah hh
    have ax50:=bK (eI .i64) hx50
    simp only[bC]at ax50
    have p51:=dZ (eI .i64) (x':=s9cx) (fo:=0) (cs:=[.int .i64 s9cx]) hx50 rfl (aeX rfl)
    simp only[bC,Nat.add_zero]at p51
    have up51:=p51
    simp only[putCells,List.length_cons,List.length_nil,ad4,Nat.reduceAdd]at up51
    have i52:=fG ([s9cx])
    simp only[aJ,bC,List.length_cons,List.length_nil,ad4,Nat.reduceAdd,aff]at i52
    obtain⟨r53,hr53,hh⟩:=ah hh
    obtain⟨r54,hr54,hh⟩:=ah hh
    obtain⟨r55,hr55,hh⟩:=ah hh
    cases hh
    try simp only[cQ,seval,q2a,q2b,q2c,q2d,q2e,ax31,q33a,q33b,q33c,q33d,hr34,Zcx,ax50,p51,up51,i52,hr53,hr54,hr55]
    refine jz ?_
    refine⟨v6cx,?_,?_,?_,?_,?_,?_⟩
    all_goals first|rfl|(simp only[cQ,seval,q2a,q2b,q2c,q2d,q2e,ax31,q33a,q33b,q33c,q33d,hr34,Zcx,ax50,p51,up51,i52,hr53,hr54,hr55]<;>rfl)
  ·cases hh
   try simp only[cQ,seval,q2a,q2b,q2c,q2d,q2e,Za]
   refine kK ?_
   refine⟨rfl,⟨v6a,?_,?_,?_⟩⟩
   all_goals first|rfl|(simp only[cQ,seval,q2a,q2b,q2c,q2d,q2e,Za]<;>rfl)
 ·rintro x t H e hx
  rcases o29 with⟨s7ax,l6ax⟩
  dsimp only at hx hh
  obtain⟨rfl,⟨v6ax,Zax⟩⟩:=hx
  obtain⟨r56,hr56,hh⟩:=ah hh
  cases hh
  try simp only[cQ,seval,q2a,q2b,q2c,q2d,q2e,Zax,hr56]
theorem Ab:bX Try.prog 85 qL:=bX.of (mode := .clean) tok Ls mixed Try.func85 (by kernel_rfl) ⟨by kernel_rfl,by kernel_rfl⟩ (fun _=>aeX (by kernel_rfl)) (fun x r h=>PG x.1 x.2 r h)
noncomputable def uv:=fR (iO (cN eo) (fO (cN eo))) (fun x:al×al=>pM x.1 x.2) (fun r:al×Int =>.clean (.tup [.agg [.int .i64 r.1.ag,.sl false false r.1.aa.length (ae (eI .i64) r.1.aa)],.int .i64 r.2]))
theorem vd (p0_0:Int) (p0_1:(List Int)) (p1_0:Int) (p1_1:(List Int)):uv none [.agg [.int .i64 p0_0,.sl false false p0_1.length (ae (eI .i64) p0_1)],.agg [.int .i64 p1_0,.sl false false p1_1.length (ae (eI .i64) p1_1)]]=(pM (al.mk p0_0 p0_1) (al.mk p1_0 p1_1)).map fun r:al×Int=>(.clean (.tup [.agg [.int .i64 r.1.ag,.sl false false r.1.aa.length (ae (eI .i64) r.1.aa)],.int .i64 r.2]),none):=aU _ _ _ ((al.mk p0_0 p0_1),(al.mk p1_0 p1_1))
noncomputable def uU:Env:=(Am.ext (Am.ext (Am.ext a7 55 false gY) 85 false qL) 86 false l3)
theorem Pf:bB Try.prog uU:=(((bB.none.add jI false).add Ab false).add pE false)
theorem eh:type_of% (ai @w<|ai @ep<|ai @rY<|ai @jm<|@uU.eq_1):=⟨@w,@ep,@rY,@jm,@uU.eq_1⟩
theorem TZ (p0:al) (p1:al) (r:al×Int) (hh:pM p0 p1=some r):ba .clean tab uU FU Try.f56 none [.agg [.int .i64 p0.ag,.sl false false p0.aa.length (ae (eI .i64) p0.aa)],.agg [.int .i64 p1.ag,.sl false false p1.aa.length (ae (eI .i64) p1.aa)]]=some (.clean (.tup [.agg [.int .i64 r.1.ag,.sl false false r.1.aa.length (ae (eI .i64) r.1.aa)],.int .i64 r.2]),none):=by
 refine aC rfl Try.ntmps56 Try.results56 ?_
 unfold pM at hh
 obtain⟨r1,hr1,hh⟩:=ah hh
 try simp only[eh,seval,hr1]
 obtain⟨o2,ho2,hh⟩:=ah hh
 refine bF 0 (fun s t H e=>match s with|s17j1=>∃v2j1:Nat,∃v3j1:Nat,∃v4j1:Nat,t 2=.ptr 2 v2j1 0∧t 3=.ptr 3 v3j1 0∧t 4=.ptr 4 v4j1 0∧t 17=.bool s17j1∧H 2=some ⟨v2j1,39,[.int .i64 p0.ag,.sl false false p0.aa.length (ae (eI .i64) p0.aa)],false,false,false⟩∧H 3=some ⟨v3j1,39,[.int .i64 p1.ag,.sl false false p1.aa.length (ae (eI .i64) p1.aa)],false,false,false⟩∧H 4=some ⟨v4j1,39,[.int .i64 0,.sl true true 0 []],false,false,false⟩) (fun s=>s=o2) ?_ ?_
 ·rintro s17j1 t H e ⟨v2j1,v3j1,v4j1,Zj1⟩ rfl
  try dsimp only at hh
  try simp only[eh,seval,hr1,Zj1]
  refine sp aq hh (fun _ hh =>?_) (fun _ hh =>?_)
  ·cases hh
   try simp only[eh,seval,hr1,Zj1]
  ·try simp only[eh,seval,hr1,Zj1]
   obtain⟨o6,ho6,hh⟩:=ah hh
   refine aB (fun s t H e=>match s with|(s6b,s7b)=>∃v4b:Nat,t 4=.ptr 4 v4b 0∧t 6=.sl false false s6b.length (ae (eI .i64) s6b)∧t 7=.sl false false s7b.length (ae (eI .i64) s7b)∧H 4=some ⟨v4b,39,[.int .i64 0,.sl true true 0 []],false,false,false⟩) (fun o x t H e=>match o with|s6bx=>x=.exit 0∧∃v4bx:Nat,t 4=.ptr 4 v4bx 0∧t 6=.sl false false s6bx.length (ae (eI .i64) s6bx)∧H 4=some ⟨v4bx,39,[.int .i64 0,.sl true true 0 []],false,false,false⟩) ho6 ?_ ?_ ?_
   ·refine⟨v4j1,?_,?_,?_,?_⟩
    all_goals first|rfl|(simp only[eh,seval,hr1,Zj1]<;>rfl)
   ·rintro⟨s6b,s7b⟩ t H e ⟨v4b,Zb⟩ c hh
    simp only[oQ]at hh
    try simp only[eh,seval,hr1,Zb]
    refine sp aq hh (fun _ hh =>?_) (fun _ hh =>?_)
    ·obtain⟨r8,hr8,hh⟩:=ah hh
     cases hh
     try simp only[eh,seval,hr1,Zb,hr8]
     refine jz ?_
     refine⟨v4b,?_,?_,?_,?_⟩
     all_goals first|rfl|(simp only[eh,seval,hr1,Zb,hr8]<;>rfl)
    ·cases hh
     try simp only[eh,seval,hr1,Zb]
     refine kK ?_
     refine⟨rfl,⟨v4b,?_,?_,?_⟩⟩
     all_goals first|rfl|(simp only[eh,seval,hr1,Zb]<;>rfl)
   ·rintro x t H e hx
    obtain⟨s6bx,rfl⟩:∃z,z=o6:=⟨_,rfl⟩
    dsimp only at hx hh
    obtain⟨rfl,⟨v4bx,Zbx⟩⟩:=hx
    obtain⟨r9,hr9,hh⟩:=ah hh
    cases hh
    try simp only[eh,seval,hr1,Zbx,hr9]
 ·clear hh
  have hh:=ho2
  try simp only[eh,seval,hr1]
  refine sp bc hh (fun _ hh =>?_) (fun _ hh =>?_)
  ·cases hh
   try simp only[eh,seval,hr1]
   rw[au]
   refine⟨_,rfl,?_⟩
   refine⟨0,0,0,?_,?_,?_,?_,?_,?_,?_⟩
   all_goals first|rfl|(simp only[eh,seval,hr1]<;>rfl)
  ·obtain⟨r11,hr11,hh⟩:=ah hh
   cases hh
   try simp only[eh,seval,hr1,hr11]
   rw[au]
   refine⟨_,rfl,?_⟩
   refine⟨0,0,0,?_,?_,?_,?_,?_,?_,?_⟩
   all_goals first|rfl|(simp only[eh,seval,hr1,hr11]<;>rfl)
theorem Dh:bX Try.prog 56 uv:=bX.of (mode := .clean) tok Pf mixed Try.func56 (by kernel_rfl) ⟨by kernel_rfl,by kernel_rfl⟩ (fun _=>aeX (by kernel_rfl)) (fun x r h=>TZ x.1 x.2 r h)
noncomputable def wq:=fR (iO (nc (eI .i64)) (fO (nc (eI .i64)))) (fun x:(List Int)×(List Int)=>tV x.1 x.2) (fun r:(List Int) =>.clean (.sl false false r.length (ae (eI .i64) r)))
theorem wS (p0:(List Int)) (p1:(List Int)):wq none [.sl false false p0.length (ae (eI .i64) p0),.sl false false p1.length (ae (eI .i64) p1)]=(tV p0 p1).map fun r:(List Int)=>(.clean (.sl false false r.length (ae (eI .i64) r)),none):=aU _ _ _ (p0,p1)
noncomputable def rI:Env:=(Am.ext (Am.ext a7 106 false kj) 109 false kD)
theorem Lt:bB Try.prog rI:=((bB.none.add mZ false).add nN false)
theorem da:type_of% (ai @w<|ai @fG<|ai @ib<|@rI.eq_1):=⟨@w,@fG,@ib,@rI.eq_1⟩
theorem PH (p0:(List Int)) (p1:(List Int)) (r:(List Int)) (hh:tV p0 p1=some r):ba .clean tab rI FU Try.f116 none [.sl false false p0.length (ae (eI .i64) p0),.sl false false p1.length (ae (eI .i64) p1)]=some (.clean (.sl false false r.length (ae (eI .i64) r)),none):=by
 refine aC rfl Try.ntmps116 Try.results116 ?_
 unfold tV at hh
 try simp only[da,seval]
 obtain⟨o13,ho13,hh⟩:=ah hh
 refine aB (fun s t H e=>match s with|(s6a,s7a,l5a)=>∃v5a:Nat,t 0=.sl false false p0.length (ae (eI .i64) p0)∧t 1=.sl false false p1.length (ae (eI .i64) p1)∧t 5=.buf 5 v5a 1 0 (l5a).length∧t 6=.int .i64 s6a∧t 7=.int .i64 s7a∧H 5=some ⟨v5a,3,ae (eI .i64) l5a,false,true,false⟩) (fun o x t H e=>match o with|l5ax=>x=.exit 0∧∃v5ax:Nat,t 5=.buf 5 v5ax 1 0 (l5ax).length∧H 5=some ⟨v5ax,3,ae (eI .i64) l5ax,false,true,false⟩) ho13 ?_ ?_ ?_
 ·refine⟨1,?_,?_,?_,?_,?_,?_⟩
  all_goals first|rfl|(simp only[da,seval]<;>rfl)
 ·rintro⟨s6a,s7a,l5a⟩ t H e ⟨v5a,Za⟩ c hh
  simp only[Al]at hh
  try simp only[da,seval,Za]
  obtain⟨o14,ho14,hh⟩:=ah hh
  refine bF 0 (fun s t H e=>match s with|s22j3=>∃v5j3:Nat,t 0=.sl false false p0.length (ae (eI .i64) p0)∧t 1=.sl false false p1.length (ae (eI .i64) p1)∧t 5=.buf 5 v5j3 1 0 (l5a).length∧t 6=.int .i64 s6a∧t 7=.int .i64 s7a∧t 22=.bool s22j3∧H 5=some ⟨v5j3,3,ae (eI .i64) l5a,false,true,false⟩) (fun s=>s=o14) ?_ ?_
  ·rintro s22j3 t H e ⟨v5j3,Zj3⟩ rfl
   try dsimp only at hh
   try simp only[da,seval,Zj3]
   refine sp aq hh (fun _ hh =>?_) (fun _ hh =>?_)
   ·obtain⟨r16,hr16,hh⟩:=ah hh
    obtain⟨r17,hr17,hh⟩:=ah hh
    obtain⟨x18,hx18,hh⟩:=ah hh
    have q19:=u3 hx18
    obtain⟨x20,hx20,hh⟩:=ah hh
    obtain⟨q21a,q21b,q21c,q21d⟩:=iS (eI .i64) hx20
    simp only[bC]at q21b
    obtain⟨x22,hx22,hh⟩:=ah hh
    have q23:=rh hx22
    cases hh
    try simp only[da,seval,Zj3,hr16,hr17,q19,q21a,q21b,q21c,q21d,q23]
    refine jz ?_
    refine⟨e+1,?_,?_,?_,?_,?_,?_⟩
    all_goals first|rfl|(simp only[da,seval,Zj3,hr16,hr17,q19,q21a,q21b,q21c,q21d,q23]<;>rfl)
   ·cases hh
    try simp only[da,seval,Zj3]
    refine kK ?_
    refine⟨rfl,⟨v5j3,?_,?_⟩⟩
    all_goals first|rfl|(simp only[da,seval,Zj3]<;>rfl)
  ·clear hh
   have hh:=ho14
   try simp only[da,seval,Za]
   refine sp bc hh (fun _ hh =>?_) (fun _ hh =>?_)
   ·cases hh
    try simp only[da,seval,Za]
    rw[au]
    refine⟨_,rfl,?_⟩
    refine⟨v5a,?_,?_,?_,?_,?_,?_,?_⟩
    all_goals first|rfl|(simp only[da,seval,Za]<;>rfl)
   ·try simp only[da,seval,Za]
    refine sp bc hh (fun _ hh =>?_) (fun _ hh =>?_)
    ·cases hh
     try simp only[da,seval,Za]
     rw[au]
     refine⟨_,rfl,?_⟩
     refine⟨v5a,?_,?_,?_,?_,?_,?_,?_⟩
     all_goals first|rfl|(simp only[da,seval,Za]<;>rfl)
    ·cases hh
     try simp only[da,seval,Za]
     rw[au]
     refine⟨_,rfl,?_⟩
     refine⟨v5a,?_,?_,?_,?_,?_,?_,?_⟩
     all_goals first|rfl|(simp only[da,seval,Za]<;>rfl)
 ·rintro x t H e hx
  obtain⟨l5ax,rfl⟩:∃z,z=o13:=⟨_,rfl⟩
  dsimp only at hx hh
  obtain⟨rfl,⟨v5ax,Zax⟩⟩:=hx
  obtain⟨r26,hr26,hh⟩:=ah hh
  cases hh
  try simp only[da,seval,Zax,hr26]
theorem Ni:bX Try.prog 116 wq:=bX.of (mode := .clean) tok Lt mixed Try.func116 (by kernel_rfl) ⟨by kernel_rfl,by kernel_rfl⟩ (fun _=>aeX (by kernel_rfl)) (fun x r h=>PH x.1 x.2 r h)
noncomputable def yy:=fR (iO (cN eo) (fO (cN eo))) (fun x:al×al=>ve x.1 x.2) (fun r:al×al×Int =>.clean (.tup [.agg [.int .i64 r.1.ag,.sl false false r.1.aa.length (ae (eI .i64) r.1.aa)],.agg [.int .i64 r.2.1.ag,.sl false false r.2.1.aa.length (ae (eI .i64) r.2.1.aa)],.int .i64 r.2.2]))
theorem G6 (p0_0:Int) (p0_1:(List Int)) (p1_0:Int) (p1_1:(List Int)):yy none [.agg [.int .i64 p0_0,.sl false false p0_1.length (ae (eI .i64) p0_1)],.agg [.int .i64 p1_0,.sl false false p1_1.length (ae (eI .i64) p1_1)]]=(ve (al.mk p0_0 p0_1) (al.mk p1_0 p1_1)).map fun r:al×al×Int=>(.clean (.tup [.agg [.int .i64 r.1.ag,.sl false false r.1.aa.length (ae (eI .i64) r.1.aa)],.agg [.int .i64 r.2.1.ag,.sl false false r.2.1.aa.length (ae (eI .i64) r.2.1.aa)],.int .i64 r.2.2]),none):=aU _ _ _ ((al.mk p0_0 p0_1),(al.mk p1_0 p1_1))
noncomputable def uT:Env:=(Am.ext (Am.ext (Am.ext (Am.ext (Am.ext a7 55 false gY) 85 false qL) 86 false l3) 108 false o0) 116 false wq)
theorem Pe:bB Try.prog uT:=(((((bB.none.add jI false).add Ab false).add pE false).add xR false).add Ni false)
theorem cL:type_of% (ai @w<|ai @ep<|ai @rY<|ai @jm<|ai @pI<|ai @wS<|@uT.eq_1):=⟨@w,@ep,@rY,@jm,@pI,@wS,@uT.eq_1⟩
theorem TY (p0:al) (p1:al) (r:al×al×Int) (hh:ve p0 p1=some r):ba .clean tab uT FU Try.f101 none [.agg [.int .i64 p0.ag,.sl false false p0.aa.length (ae (eI .i64) p0.aa)],.agg [.int .i64 p1.ag,.sl false false p1.aa.length (ae (eI .i64) p1.aa)]]=some (.clean (.tup [.agg [.int .i64 r.1.ag,.sl false false r.1.aa.length (ae (eI .i64) r.1.aa)],.agg [.int .i64 r.2.1.ag,.sl false false r.2.1.aa.length (ae (eI .i64) r.2.1.aa)],.int .i64 r.2.2]),none):=by
 refine aC rfl Try.ntmps101 Try.results101 ?_
 unfold ve at hh
 obtain⟨r1,hr1,hh⟩:=ah hh
 try simp only[cL,seval,hr1]
 obtain⟨o2,ho2,hh⟩:=ah hh
 refine bF 0 (fun s t H e=>match s with|s16j1=>∃v2j1:Nat,∃v3j1:Nat,∃v4j1:Nat,∃v5j1:Nat,t 2=.ptr 2 v2j1 0∧t 3=.ptr 3 v3j1 0∧t 4=.ptr 4 v4j1 0∧t 5=.ptr 5 v5j1 0∧t 16=.bool s16j1∧H 2=some ⟨v2j1,39,[.int .i64 p0.ag,.sl false false p0.aa.length (ae (eI .i64) p0.aa)],false,false,false⟩∧H 3=some ⟨v3j1,39,[.int .i64 p1.ag,.sl false false p1.aa.length (ae (eI .i64) p1.aa)],false,false,false⟩∧H 4=some ⟨v4j1,39,[.int .i64 0,.sl true true 0 []],false,false,false⟩∧H 5=some ⟨v5j1,39,[.int .i64 0,.sl true true 0 []],false,false,false⟩) (fun s=>s=o2) ?_ ?_
 ·rintro s16j1 t H e ⟨v2j1,v3j1,v4j1,v5j1,Zj1⟩ rfl
  try dsimp only at hh
  try simp only[cL,seval,hr1,Zj1]
  refine sp aq hh (fun _ hh =>?_) (fun _ hh =>?_)
  ·cases hh
   try simp only[cL,seval,hr1,Zj1]
  ·try simp only[cL,seval,hr1,Zj1]
   refine sp aq hh (fun _ hh =>?_) (fun _ hh =>?_)
   ·cases hh
    try simp only[cL,seval,hr1,Zj1]
   ·obtain⟨r5,hr5,hh⟩:=ah hh
    try simp only[cL,seval,hr1,Zj1,hr5]
    obtain⟨o6,ho6,hh⟩:=ah hh
    refine bF 0 (fun s t H e=>match s with|s42j2=>∃v2j2:Nat,∃v3j2:Nat,∃v4j2:Nat,∃v5j2:Nat,t 2=.ptr 2 v2j2 0∧t 3=.ptr 3 v3j2 0∧t 4=.ptr 4 v4j2 0∧t 5=.ptr 5 v5j2 0∧t 7=.sl false false r5.1.length (ae (eI .i64) r5.1)∧t 8=.sl false false r5.2.length (ae (eI .i64) r5.2)∧t 42=.bool s42j2∧H 2=some ⟨v2j2,39,[.int .i64 p0.ag,.sl false false p0.aa.length (ae (eI .i64) p0.aa)],false,false,false⟩∧H 3=some ⟨v3j2,39,[.int .i64 p1.ag,.sl false false p1.aa.length (ae (eI .i64) p1.aa)],false,false,false⟩∧H 4=some ⟨v4j2,39,[.int .i64 0,.sl true true 0 []],false,false,false⟩∧H 5=some ⟨v5j2,39,[.int .i64 0,.sl true true 0 []],false,false,false⟩) (fun s=>s=o6) ?_ ?_
    ·rintro s42j2 t H e ⟨v2j2,v3j2,v4j2,v5j2,Zj2⟩ rfl
     try dsimp only at hh
     try simp only[cL,seval,hr1,hr5,Zj2]
     refine sp aq hh (fun _ hh =>?_) (fun _ hh =>?_)
     ·obtain⟨r8,hr8,hh⟩:=ah hh
      obtain⟨r9,hr9,hh⟩:=ah hh
      try simp only[cL,seval,hr1,hr5,Zj2,hr8,hr9]
      refine bn (by kernel_rfl) ?_
      cases hh
      try simp only[cL,seval,hr1,hr5,Zj2,hr8,hr9]
     ·have i10:=wS r5.1 ([1])
      simp only[aJ,bC,List.length_cons,List.length_nil,ad4,Nat.reduceAdd,aff]at i10
      obtain⟨r11,hr11,hh⟩:=ah hh
      obtain⟨r12,hr12,hh⟩:=ah hh
      obtain⟨r13,hr13,hh⟩:=ah hh
      obtain⟨r14,hr14,hh⟩:=ah hh
      try simp only[cL,seval,hr1,hr5,Zj2,i10,hr11,hr12,hr13,hr14]
      refine bn (by kernel_rfl) ?_
      cases hh
      try simp only[cL,seval,hr1,hr5,Zj2,i10,hr11,hr12,hr13,hr14]
    ·clear hh
     have hh:=ho6
     try simp only[cL,seval,hr1,Zj1,hr5]
     refine sp bc hh (fun _ hh =>?_) (fun _ hh =>?_)
     ·cases hh
      try simp only[cL,seval,hr1,Zj1,hr5]
      rw[au]
      refine⟨_,rfl,?_⟩
      refine⟨v2j1,v3j1,v4j1,v5j1,?_,?_,?_,?_,?_,?_,?_,?_,?_,?_,?_⟩
      all_goals first|rfl|(simp only[cL,seval,hr1,Zj1,hr5]<;>rfl)
     ·cases hh
      try simp only[cL,seval,hr1,Zj1,hr5]
      rw[au]
      refine⟨_,rfl,?_⟩
      refine⟨v2j1,v3j1,v4j1,v5j1,?_,?_,?_,?_,?_,?_,?_,?_,?_,?_,?_⟩
      all_goals first|rfl|(simp only[cL,seval,hr1,Zj1,hr5]<;>rfl)
 ·clear hh
  have hh:=ho2
  try simp only[cL,seval,hr1]
  refine sp bc hh (fun _ hh =>?_) (fun _ hh =>?_)
  ·cases hh
   try simp only[cL,seval,hr1]
   rw[au]
   refine⟨_,rfl,?_⟩
   refine⟨0,0,0,0,?_,?_,?_,?_,?_,?_,?_,?_,?_⟩
   all_goals first|rfl|(simp only[cL,seval,hr1]<;>rfl)
  ·obtain⟨r17,hr17,hh⟩:=ah hh
   cases hh
   try simp only[cL,seval,hr1,hr17]
   rw[au]
   refine⟨_,rfl,?_⟩
   refine⟨0,0,0,0,?_,?_,?_,?_,?_,?_,?_,?_,?_⟩
   all_goals first|rfl|(simp only[cL,seval,hr1,hr17]<;>rfl)
theorem PW:bX Try.prog 101 yy:=bX.of (mode := .clean) tok Pe mixed Try.func101 (by kernel_rfl) ⟨by kernel_rfl,by kernel_rfl⟩ (fun _=>aeX (by kernel_rfl)) (fun x r h=>TY x.1 x.2 r h)
noncomputable def yB:=fR (iO (cN eo) (fO (cN eo))) (fun x:al×al=>xZ x.1 x.2) (fun r:ak×Int =>.clean (.tup [.agg [.int .i64 r.1.aL.ag,.sl false false r.1.aL.aa.length (ae (eI .i64) r.1.aL.aa),.int .i64 r.1.aM.ag,.sl false false r.1.aM.aa.length (ae (eI .i64) r.1.aM.aa)],.int .i64 r.2]))
theorem G9 (p0_0:Int) (p0_1:(List Int)) (p1_0:Int) (p1_1:(List Int)):yB none [.agg [.int .i64 p0_0,.sl false false p0_1.length (ae (eI .i64) p0_1)],.agg [.int .i64 p1_0,.sl false false p1_1.length (ae (eI .i64) p1_1)]]=(xZ (al.mk p0_0 p0_1) (al.mk p1_0 p1_1)).map fun r:ak×Int=>(.clean (.tup [.agg [.int .i64 r.1.aL.ag,.sl false false r.1.aL.aa.length (ae (eI .i64) r.1.aL.aa),.int .i64 r.1.aM.ag,.sl false false r.1.aM.aa.length (ae (eI .i64) r.1.aM.aa)],.int .i64 r.2]),none):=aU _ _ _ ((al.mk p0_0 p0_1),(al.mk p1_0 p1_1))
noncomputable def uX:Env:=(Am.ext (Am.ext (Am.ext (Am.ext a7 55 false gY) 56 false uv) 100 false yz) 101 false yy)
theorem Pj:bB Try.prog uX:=((((bB.none.add jI false).add Dh false).add PX false).add PW false)
theorem dM:type_of% (ai @w<|ai @ep<|ai @vd<|ai @G7<|ai @G6<|@uX.eq_1):=⟨@w,@ep,@vd,@G7,@G6,@uX.eq_1⟩
end Go.Proofs.Ytchndpjlijbplaa.Am
