/- Part of a proof, made small by a program (wip/mini.py). -/
import Derived.Test.YtchndpjlijbplaaMc
namespace Go.Proofs.Ytchndpjlijbplaa.Am
open Go.RowKit Go.Proofs.Ytchndpjlijbplaa.P
set_option linter.unusedSimpArgs false
set_option linter.unusedVariables false
section
variable {T:Nat->Option Ty} {Γ:Env} {N F e:Nat} {Q Q':Kt} {t:Nat->D} {h:Nat->Option Row}
theorem gQ (hm:∀x t h e,Q x t h e->Q' x t h e):∀(ws:List W) (x:Ex) (t:Nat->D) (h:Nat->Option Row) (e:Nat),cD T Γ N F ws Q x t h e->cD T Γ N F ws Q' x t h e
 | [],x,t,h,e,hk=>hm _ _ _ _ hk
 | .code c::ws,x,t,h,e,hk=>by
  unfold cD at hk ⊢
  cases x with
  | normal=>exact TK c t h e _ _ hk (fun x t h e hx=>gQ hm ws x t h e hx)
  | exit n=>exact gQ hm ws _ t h e hk
  | ret=>exact gQ hm ws _ t h e hk
 | .blk id::ws,x,t,h,e,hk=>by
  unfold cD Ui at hk ⊢
  cases x with
  | normal=>exact gQ hm ws _ t h e hk
  | exit n =>
   simp only at hk ⊢
   split at hk
   ·rename_i hn;rw[if_pos hn];exact gQ hm ws _ t h e hk
   ·rename_i hn;rw[if_neg hn];exact gQ hm ws _ t h e hk
  | ret=>exact gQ hm ws _ t h e hk
theorem oM:∀(ws:List W) (k:Nat),cD T Γ N F ws Q=cD T Γ N F (ws.take k) (cD T Γ N F (ws.drop k) Q)
 | ws,0=>by simp[cD]
 | [],k+1=>by simp[cD]
 | .code c::ws,k+1=>by
  rw[aeu,aet]
  funext x t h e
  unfold cD
  rw[oM ws k]
 | .blk id::ws,k+1=>by
  rw[aeu,aet]
  funext x t h e
  unfold cD
  rw[oM ws k]
variable {σ:Type} {ops l:List Oper} {ws:List W} {dst:Option Nat} {fs:List jE} {d:D} {g:Nat}
theorem si {J:σ->(Nat->D)->(Nat->Option Row)->Nat->Prop} {P:σ->Prop} {R:Kt} (hrest:∀s t h e,J s t h e->P s->R .normal t h e):∀x t h e,CK J P R x t h e->R x t h e:=by
 intro x t h e hx
 cases x with
 | normal=>obtain⟨s,h1,h2⟩:=hx;exact hrest s t h e h2 h1
 | exit n=>exact hx
 | ret=>exact hx
theorem u9 (hm:∀x t h e,Q x t h e->Q' x t h e) (hk:kn T Γ N F ops l ws Q t h e):kn T Γ N F ops l ws Q' t h e:=vd (fun t h hh=>gQ hm ws _ _ _ _ hh) _ _ _ hk
theorem va (hm:∀x t h e,Q x t h e->Q' x t h e) (hk:ko T Γ N F ops l ws Q t h e fs):ko T Γ N F ops l ws Q' t h e fs:=u7 (fun t h fs hh=>⟨hh.1,gQ hm ws _ _ _ _ hh.2⟩) _ _ _ _ hk
theorem rV (k:Nat):kn T Γ N F ops l ws Q t h e=kn T Γ N F ops l (ws.take k) (cD T Γ N F (ws.drop k) Q) t h e:=by unfold kn;rw[oM ws k]
theorem rW (k:Nat):ko T Γ N F ops l ws Q t h e fs=ko T Γ N F ops l (ws.take k) (cD T Γ N F (ws.drop k) Q) t h e fs:=by unfold ko;rw[oM ws k]
theorem Fa (k:Nat) {o:Oper} : oc T Γ N F o ops l ws Q t h e=oc T Γ N F o ops l (ws.take k) (cD T Γ N F (ws.drop k) Q) t h e:=by
 unfold oc
 congr 1
 funext t E
 rw[rV k]
theorem Fj (k:Nat) {o:Oper} : od T Γ N F o ops l ws Q t h e fs=od T Γ N F o ops l (ws.take k) (cD T Γ N F (ws.drop k) Q) t h e fs:=by
 unfold od
 congr 1
 funext t E
 rw[rW k]
theorem JW {o:Oper} (hm:∀x t h e,Q x t h e->Q' x t h e) (hk:oc T Γ N F o ops l ws Q t h e):oc T Γ N F o ops l ws Q' t h e:=xP hk fun _ _ hh=>u9 hm hh
theorem J2 {o:Oper} (hm:∀x t h e,Q x t h e->Q' x t h e) (hk:od T Γ N F o ops l ws Q t h e fs):od T Γ N F o ops l ws Q' t h e fs:=xP hk fun _ _ hh=>va hm hh
variable (k:Nat) (J:σ->(Nat->D)->(Nat->Option Row)->Nat->Prop) (P:σ->Prop)
theorem jW {x y:Code} (hrest:∀s t h e,J s t h e->P s->cD T Γ N F (ws.drop k) Q .normal t h e) (hc:IQ T Γ N F d g x y (ws.take k) (CK J P (cD T Γ N F (ws.drop k) Q)) t h e):IQ T Γ N F d g x y ws Q t h e:=by
 unfold IQ at hc ⊢
 have e1:∀c:Code,cD T Γ N F (.code c::ws) Q=cD T Γ N F (.code c::ws.take k) (cD T Γ N F (ws.drop k) Q):=fun c=>oM (.code c::ws) (k+1)
 rw[e1,e1]
 exact xN hc (fun _ hh=>gQ (si hrest) _ _ _ _ _ hh) (fun _ hh=>gQ (si hrest) _ _ _ _ _ hh)
theorem bS {want:Bool} {o:Oper} (hrest:∀s t h e,J s t h e->P s->cD T Γ N F (ws.drop k) Q .normal t h e) (hc:vA T Γ N F d g want o ops l (ws.take k) (CK J P (cD T Γ N F (ws.drop k) Q)) t h e):vA T Γ N F d g want o ops l ws Q t h e:=by
 unfold vA at hc ⊢
 refine DI hc (fun t hh =>?_) (fun t hh =>?_) (fun t hh =>?_)
 ·cases want
  ·simp only[adb,if_false]at hh ⊢;rw[rV k];exact u9 (si hrest) hh
  ·simp only[if_true]at hh ⊢;rw[Fa k];exact JW (si hrest) hh
 ·cases want
  ·simp only[adb,if_false]at hh ⊢;rw[Fa k];exact JW (si hrest) hh
  ·simp only[if_true]at hh ⊢;rw[rV k];exact u9 (si hrest) hh
 ·rw[rV k];exact u9 (si hrest) hh
theorem WO {want:Bool} {o:Oper} (hrest:∀s t h e,J s t h e->P s->cD T Γ N F (ws.drop k) Q .normal t h e) (hc:vB T Γ N F d g want o ops l (ws.take k) (CK J P (cD T Γ N F (ws.drop k) Q)) t h e fs):vB T Γ N F d g want o ops l ws Q t h e fs:=by
 unfold vB at hc ⊢
 refine DI hc (fun t hh =>?_) (fun t hh =>?_) (fun t hh =>?_)
 ·cases want
  ·simp only[adb,if_false]at hh ⊢;rw[rW k];exact va (si hrest) hh
  ·simp only[if_true]at hh ⊢;rw[Fj k];exact J2 (si hrest) hh
 ·cases want
  ·simp only[adb,if_false]at hh ⊢;rw[Fj k];exact J2 (si hrest) hh
  ·simp only[if_true]at hh ⊢;rw[rW k];exact va (si hrest) hh
 ·rw[rW k];exact va (si hrest) hh
end
noncomputable def Z0 {α β γ:Type} (ty:Nat) (E:hY γ) (A:kO α) (F:List γ->α->Option (List γ×β)) (R:β->RK):Option (D×Row)->List D->Option (RK×Option Row):=fun lent ds =>
 match lent with
 | some (.buf 0 0 s o n,⟨0,ty',cells,false,true,false⟩)=>open Classical in
  if h:ty'=ty∧s=E.size∧∃p:List D×List γ×List D×α,cells=p.1++(ae E p.2.1++p.2.2.1)∧o=p.1.length∧n=p.2.1.length∧ds=A.ds p.2.2.2 then
   (F (Classical.choose h.2.2).2.1 (Classical.choose h.2.2).2.2.2).map fun r=>(R r.2,some ⟨0,ty,(Classical.choose h.2.2).1++(ae E r.1++(Classical.choose h.2.2).2.2.1),false,true,false⟩)
  else none
 | _=>none
theorem So {γ:Type} {E:hY γ} {p p' q q':List D} {l l':List γ} (h:p++(ae E l++q)=p'++(ae E l'++q')) (hp:p.length=p'.length) (hl:l.length=l'.length):p=p'∧l=l'∧q=q':=by
 obtain⟨h1,h2⟩:=aev h hp
 obtain⟨h3,h4⟩:=aev h2 (by rw[bG,bG,hl])
 exact⟨h1,tl E _ _ h3,h4⟩
theorem Zy {α β γ:Type} (ty:Nat) (E:hY γ) (A:kO α) (F:List γ->α->Option (List γ×β)) (R:β->RK) (pre post:List D) (l:List γ) (a:α) :
  Z0 ty E A F R (some (.buf 0 0 E.size pre.length l.length,⟨0,ty,pre++(ae E l++post),false,true,false⟩)) (A.ds a)=(F l a).map fun r=>(R r.2,some ⟨0,ty,pre++(ae E r.1++post),false,true,false⟩):=by
 have h:ty=ty∧E.size=E.size∧∃p:List D×List γ×List D×α,pre++(ae E l++post)=p.1++(ae E p.2.1++p.2.2.1)∧pre.length=p.1.length∧l.length=p.2.1.length∧A.ds a=A.ds p.2.2.2:=⟨rfl,rfl,(pre,l,post,a),rfl,rfl,rfl,rfl⟩
 simp only[Z0]
 rw[dif_pos h]
 obtain⟨h1,h2,h3,h4⟩:=Classical.choose_spec h.2.2
 obtain⟨e1,e2,e3⟩:=So h1 h2 h3
 rw[<- A.inj _ _ h4,<- e1,<- e2,<- e3]
theorem VD {α β γ:Type} {ty:Nat} {E:hY γ} {A:kO α} {F:List γ->α->Option (List γ×β)} {R:β->RK} {lent:Option (D×Row)} {ds:List D} {rk:RK} {out:Option Row} (h:Z0 ty E A F R lent ds=some (rk,out)) :
  ∃pre l post a l' r,lent=some (.buf 0 0 E.size pre.length l.length,⟨0,ty,pre++(ae E l++post),false,true,false⟩)∧ds=A.ds a∧F l a=some (l',r)∧rk=R r∧out=some ⟨0,ty,pre++(ae E l'++post),false,true,false⟩:=by
 unfold Z0 at h
 split at h
 ·split at h
  ·rename_i he
   obtain⟨rfl,rfl,he⟩:=he
   rw[acz]at h
   obtain⟨⟨l',r⟩,h1,h2⟩:=h
   simp only[Prod.mk.injEq]at h2
   obtain⟨rfl,rfl⟩:=h2
   obtain⟨g1,g2,g3,g4⟩:=Classical.choose_spec he
   refine⟨_,_,_,_,l',r,?_,g4,h1,rfl,rfl⟩
   rw[<- g1,<- g2,<- g3]
  ·cases h
 ·cases h
theorem bW.aaq {P:Program} {T:Nat->Option Ty} {Γ:Env} (hT:jf P T) (hΓ:bC P Γ) (hm:P.follows .mixedOrders=true) {α β γ:Type} {ty:Nat} {E:hY γ} {A:kO α} {F:List γ->α->Option (List γ×β)} {R:β->RK} {mode:Mode} {f:FuncId} {fn:Func} (hf:P.funcs[f]? = some fn) (hok:(match fn.body with|some c=>codeOk c|none=>true)=true)
  (hc:(fn.name == "runtime.NumGoroutine")=false∧fn.body.isNone=false) (hn:∀a,(A.ds a).length+1<=fn.ntmps)
  (h:∀pre post l a l' r,F l a=some (l',r)->a7 mode T Γ FU fn (some (.buf 0 0 E.size pre.length l.length,⟨0,ty,pre++(ae E l++post),false,true,false⟩)) (A.ds a)=some (R r,some ⟨0,ty,pre++(ae E l'++post),false,true,false⟩)):bW P f (Z0 ty E A F R) where
 calls lent acw rk out hg:=by
  obtain⟨pre,l,post,a,l',r,rfl,rfl,hr,rfl,rfl⟩:=VD hg
  exact kM hT hΓ hm hf hok (hn a) rfl (h pre post l a l' r hr)
 callable:=⟨fn,hf,hc⟩
noncomputable def YH {α γ:Type} (ty:Nat) (E:hY γ) (A:kO α) (F:List γ->α->Option (List γ)):Option (D×Row)->List D->Option (RK×Option Row):=fun lent ds =>
 match lent with
 | some (.buf 0 0 s o n,⟨0,ty',cells,false,true,false⟩)=>open Classical in
  if h:ty'=ty∧s=E.size∧∃p:List D×List γ×List D×α,cells=p.1++(ae E p.2.1++p.2.2.1)∧o=p.1.length∧n=p.2.1.length∧ds=A.ds p.2.2.2 then
   (F (Classical.choose h.2.2).2.1 (Classical.choose h.2.2).2.2.2).map fun r=>(.fresh ty E.size r.length (ae E r),none)
  else none
 | _=>none
theorem VB {α γ:Type} (ty:Nat) (E:hY γ) (A:kO α) (F:List γ->α->Option (List γ)) (pre post:List D) (l:List γ) (a:α) :
  YH ty E A F (some (.buf 0 0 E.size pre.length l.length,⟨0,ty,pre++(ae E l++post),false,true,false⟩)) (A.ds a)=(F l a).map fun r=>(.fresh ty E.size r.length (ae E r),none):=by
 have h:ty=ty∧E.size=E.size∧∃p:List D×List γ×List D×α,pre++(ae E l++post)=p.1++(ae E p.2.1++p.2.2.1)∧pre.length=p.1.length∧l.length=p.2.1.length∧A.ds a=A.ds p.2.2.2:=⟨rfl,rfl,(pre,l,post,a),rfl,rfl,rfl,rfl⟩
 simp only[YH]
 rw[dif_pos h]
 obtain⟨h1,h2,h3,h4⟩:=Classical.choose_spec h.2.2
 obtain⟨e1,e2,e3⟩:=So h1 h2 h3
 rw[<- A.inj _ _ h4,<- e2]
theorem L9 {α γ:Type} {ty:Nat} {E:hY γ} {A:kO α} {F:List γ->α->Option (List γ)} {lent:Option (D×Row)} {ds:List D} {rk:RK} {out:Option Row} (h:YH ty E A F lent ds=some (rk,out)) :
  ∃pre l post a r,lent=some (.buf 0 0 E.size pre.length l.length,⟨0,ty,pre++(ae E l++post),false,true,false⟩)∧ds=A.ds a∧F l a=some r∧rk=.fresh ty E.size r.length (ae E r)∧out=none:=by
 unfold YH at h
 split at h
 ·split at h
  ·rename_i he
   obtain⟨rfl,rfl,he⟩:=he
   rw[acz]at h
   obtain⟨r,h1,h2⟩:=h
   simp only[Prod.mk.injEq]at h2
   obtain⟨rfl,rfl⟩:=h2
   obtain⟨g1,g2,g3,g4⟩:=Classical.choose_spec he
   refine⟨(Classical.choose he).1,(Classical.choose he).2.1,(Classical.choose he).2.2.1,(Classical.choose he).2.2.2,r,?_,g4,h1,rfl,rfl⟩
   rw[<- g1,<- g2,<- g3]
  ·cases h
 ·cases h
theorem bW.aap {P:Program} {T:Nat->Option Ty} {Γ:Env} (hT:jf P T) (hΓ:bC P Γ) (hm:P.follows .mixedOrders=true) {α γ:Type} {ty:Nat} {E:hY γ} {A:kO α} {F:List γ->α->Option (List γ)} {f:FuncId} {fn:Func} (hf:P.funcs[f]? = some fn) (hok:(match fn.body with|some c=>codeOk c|none=>true)=true)
  (hc:(fn.name == "runtime.NumGoroutine")=false∧fn.body.isNone=false) (hn:∀a,(A.ds a).length+1<=fn.ntmps)
  (h:∀pre post l a r,F l a=some r->a7 (.fresh ty E.size) T Γ FU fn (some (.buf 0 0 E.size pre.length l.length,⟨0,ty,pre++(ae E l++post),false,true,false⟩)) (A.ds a)=some (.fresh ty E.size r.length (ae E r),none)):bW P f (YH ty E A F) where
 calls lent acw rk out hg:=by
  obtain⟨pre,l,post,a,r,rfl,rfl,hr,rfl,rfl⟩:=L9 hg
  exact kM hT hΓ hm hf hok (hn a) rfl (h pre post l a r hr)
 callable:=⟨fn,hf,hc⟩
theorem bW.zero {P:Program} {f:FuncId} {fn:Func} (hf:P.funcs[f]? = some fn) (hc:(fn.name == "runtime.NumGoroutine")=false∧fn.body.isNone=false) {α β:Type} {A:kO α} {F:α->Option β} {R:β->RK} (h0:∀a,F a=none):bW P f (fU A F R) where
 calls lent acw rk out hg:=by
  obtain⟨rfl,rfl,a,r,rfl,hr,rfl⟩:=xv hg
  rw[h0]at hr
  cases hr
 callable:=⟨fn,hf,hc⟩
section
variable {h:Nat->Option Row} {Γ:Env} {g e x v d:Nat} {dst:Option Nat} {fr:List Nat} {acw rest:List D} {d0:D} {T:Nat->Option Ty} {rs:List ResultVar}
def Jg (h:Nat->Option Row) (e:Nat) (dst:Option Nat) (x v:Nat) (fr:List Nat):Option (RK×Option Row)->Option bI
 | some (.clean c,some r1)=>some ⟨c,ik h fr++[(x,some { r1 with v:=v })]⟩
 | some (.same s o n,some r1)=>some ⟨.buf x v s o n,ik h fr++[(x,some { r1 with v:=v })]⟩
 | some (.fresh ty s n cells,none) =>
  match dst with
  | some d=>if fr.contains d=false then some ⟨.buf d e s 0 n,ik h fr++[(x,none),(d,some ⟨e,ty,cells,false,true,false⟩)]⟩ else none
  | none=>none
 | _=>none
def Uo (Γ:Env) (h:Nat->Option Row) (e:Nat) (dst:Option Nat) (g x v:Nat) (d0:D) (r:Row):Option (List D×List Nat)->Option bI
 | some (acw,fr)=>if fr.contains x=false then Jg h e dst x v fr (Γ.sem g (some (d0,r)) acw) else none
 | none=>none
def Un (Γ:Env) (h:Nat->Option Row) (e:Nat) (dst:Option Nat) (g x v:Nat) (d0:D) (rest:List D):Option Row->Option bI
 | some r=>if r.fz=false then Uo Γ h e dst g x v d0 { r with v:=0 } (bj h rest) else none
 | none=>none
theorem Jh {s o n:Nat} : A9 true Γ h e dst g (.buf x v s o n::rest)=Un Γ h e dst g x v (.buf 0 0 s o n) rest (live h x v):=by
 simp only[A9,if_true,sn]
 cases live h x v with
 | none=>rfl
 | some r =>
  simp only[Un]
  cases bj h rest with
  | none=>rfl
  | some p=>rfl
theorem Bc {r:Row} : Un Γ h e dst g x v d0 rest (some r)=if r.fz=false then Uo Γ h e dst g x v d0 { r with v:=0 } (bj h rest) else none:=afp
theorem Bd {r:Row} : Uo Γ h e dst g x v d0 r (some (acw,fr))=if fr.contains x=false then Jg h e dst x v fr (Γ.sem g (some (d0,r)) acw) else none:=afp
theorem yX {c:D} {v' ty:Nat} {cells:List D} {fz lst:Bool} : Jg h e dst x v fr (some (.clean c,some ⟨v',ty,cells,fz,lst,false⟩))=some ⟨c,ik h fr++[(x,some ⟨v,ty,cells,fz,lst,false⟩)]⟩:=afp
theorem Be {s o n v' ty:Nat} {cells:List D} {fz lst:Bool} : Jg h e dst x v fr (some (.same s o n,some ⟨v',ty,cells,fz,lst,false⟩))=some ⟨.buf x v s o n,ik h fr++[(x,some ⟨v,ty,cells,fz,lst,false⟩)]⟩:=afp
theorem yY {s n ty:Nat} {cells:List D} : Jg h e (some d) x v fr (some (.fresh ty s n cells,none))=if fr.contains d=false then some ⟨.buf d e s 0 n,ik h fr++[(x,none),(d,some ⟨e,ty,cells,false,true,false⟩)]⟩ else none:=afp
theorem zq {ty sz i:Nat} {t:Nat->D} {l:D×Row} : jl (.fresh ty sz) T (some l) [.tmp i] ⟨t,h,e⟩=lX ty sz h (t i):=afp
def aaf (y v s o:Nat):Option Row->Option Ty->Option (Nat×Nat)->Option bI
 | some _,some φ,some (l,k)=>if φ.size=s∧0<s then some ⟨.buf y v s (o+l*s) (k-l),[]⟩ else none
 | _,_,_=>none
theorem Fy {y v s o l k:Nat} {r:Row} {φ:Ty} : aaf y v s o (some r) (some φ) (some (l,k))=if φ.size=s∧0<s then some ⟨.buf y v s (o+l*s) (k-l),[]⟩ else none:=afp
theorem Q5 {el b c y v s o n:Nat} {z:List Value} {q:Bool} {lo hi:Option D} : cw T ⟨.slice el,b,c,z,q⟩ h (.buf y v s o n) lo hi none=aaf y v s o (live h y v) (T el) (sX n lo hi):=by
 simp only[cw]
 cases live h y v with
 | none=>rfl
 | some r =>
  simp only
  cases T el with
  | none=>rfl
  | some φ =>
   cases sX n lo hi with
   | none=>rfl
   | some p=>rfl
def Zj (ty:Nat):Option (List D×List Nat)->Option Row->Option (RK×Option Row)
 | some (ds,fr),some r=>if r.v=0∧r.fz=false∧r.ty=ty∧r.mp=false∧fr.contains 0=false then some (.clean (l9 ds),some r) else none
 | _,_=>none
theorem Fv {ty:Nat} {ds:List D} {r:Row} : Zj ty (some (ds,fr)) (some r)=if r.v=0∧r.fz=false∧r.ty=ty∧r.mp=false∧fr.contains 0=false then some (.clean (l9 ds),some r) else none:=afp
theorem Fw {t:Nat->D} {ty v:Nat} {cells:List D} {fz lst:Bool} : jl .clean T (some (d0,⟨v,ty,cells,fz,lst,false⟩)) rs ⟨t,h,e⟩=Zj ty (tR T ⟨t,h,e⟩ rs) (h 0):=by
 simp only[jl,tn,lj,XK,Zj]
 cases tR T ⟨t,h,e⟩ rs with
 | none=>rfl
 | some p =>
  obtain⟨ds,fr⟩:=p
  cases h 0 with
  | none=>rfl
  | some r =>
   simp only
   by_cases h1:r.v=0∧r.fz=false∧r.ty=ty∧r.mp=false
   ·rw[if_pos h1]
    simp only[adf]
    by_cases h2:fr.contains 0=false
    ·rw[if_pos h2,if_pos ⟨h1.1,h1.2.1,h1.2.2.1,h1.2.2.2,h2⟩]
    ·rw[if_neg h2,if_neg (fun hh=>h2 hh.2.2.2.2)]
   ·rw[if_neg h1,if_neg (fun hh=>h1 ⟨hh.1,hh.2.1,hh.2.2.1,hh.2.2.2.1⟩)]
def Xp (ty:Nat):D->Option Row->Option (RK×Option Row)
 | .buf 0 0 s o n,some r=>if r.v=0∧r.fz=false∧r.ty=ty∧r.mp=false then some (.same s o n,some r) else none
 | _,_=>none
theorem Kn {ty s o n:Nat} {r:Row} : Xp ty (.buf 0 0 s o n) (some r)=if r.v=0∧r.fz=false∧r.ty=ty∧r.mp=false then some (.same s o n,some r) else none:=afp
theorem Fx {t:Nat->D} {ty v i:Nat} {cells:List D} {fz lst:Bool} : jl .same T (some (d0,⟨v,ty,cells,fz,lst,false⟩)) [.tmp i] ⟨t,h,e⟩=Xp ty (t i) (h 0):=by
 simp only[jl,Ax,lj]
 generalize t i=q
 cases q with
 | buf a b s o n =>
  cases h 0 with
  | none=>rcases a with _|a<;>rcases b with _|b<;>rfl
  | some r =>
   simp only
   by_cases h1:r.v=0∧r.fz=false∧r.ty=ty∧r.mp=false
   ·rcases a with _|a<;>rcases b with _|b<;>simp[Xp,h1]
   ·rcases a with _|a<;>rcases b with _|b<;>simp[Xp,h1]
 | _=>rfl
end
section
variable {α:Type} (E:hY α) {l m u x:List α} {y y':α} {i a b:Int} {pre post:List D}
theorem X3 (h:Aq l a b=some x):ae E (l.take a.toNat)++(ae E x++ae E (l.drop b.toNat))=ae E l:=by
 unfold Aq at h
 split at h
 ·rename_i hc
  cases h
  rw[<- fh,<- fh]
  congr 1
  have e:l.drop b.toNat=(l.drop a.toNat).drop (b.toNat-a.toNat):=by rw[aen];congr 1;omega
  rw[e,aeo,aeo]
 ·cases h
theorem X4 (h:Aq l a b=some x):(ae E (l.take a.toNat)).length=a.toNat*E.size:=by
 unfold Aq at h
 split at h
 ·rw[bG,acU,adI (by omega)]
 ·cases h
theorem YY (h:Aq l a b=some x):x.length=b.toNat-a.toNat:=by
 unfold Aq at h
 split at h
 ·cases h
  simp
  omega
 ·cases h
theorem X2:ae E (l.take i.toNat)++(ae E u++ae E (l.drop b.toNat))=ae E (l.take i.toNat++(u++l.drop b.toNat)):=by rw[fh,fh]
theorem Vi (h:P.idx l i=some y):(pre++(ae E l++post)).drop (pre.length+i.toNat*E.size)=E.cells y++(ae E (l.drop (i.toNat+1))++post):=by
 rw[<- aen,List.drop_left,adS (by rw[bG];have:=jn E h;omega),xq E h,adR]
theorem Vj (h:P.idx l i=some y):pre.length+i.toNat*E.size+E.size<=(pre++(ae E l++post)).length:=by
 have:=jn E h
 rw[adF,adF,bG]
 omega
theorem K8 (h:P.idx l i=some y):(0<=i∧i<l.length)∧(pre++(ae E l++post)).drop (pre.length+i.toNat*E.size)=E.cells y++(ae E (l.drop (i.toNat+1))++post)∧pre.length+i.toNat*E.size+E.size<=(pre++(ae E l++post)).length:=⟨oA h,Vi E h,Vj E h⟩
theorem MN (h:P.idx l i=some y):putCells (pre++(ae E l++post)) (pre.length+i.toNat*E.size) (E.cells y')=pre++(ae E (l.set i.toNat y')++post):=by
 have h1:=VW E (x':=y') h
 have hf:=jn E h
 have hl:=bG E l
 unfold putCells at h1 ⊢
 rw[<- h1,E.len]
 have e1:(pre++(ae E l++post)).take (pre.length+i.toNat*E.size)=pre++(ae E l).take (i.toNat*E.size):=by
  rw[adU,adW (by omega),adT,adV (by omega)]
 have e2:(pre++(ae E l++post)).drop (pre.length+i.toNat*E.size+E.size)=(ae E l).drop (i.toNat*E.size+E.size)++post:=by
  rw[acW,aek,ael (by omega),adT,aei,adS (by omega)]
 rw[e1,e2]
 simp only[adR]
theorem WU (h:Aq l a b=some x) (hu:u.length=x.length):(l.take a.toNat++(u++l.drop b.toNat)).length=l.length:=by
 have hn:=YY h
 unfold Aq at h
 split at h
 ·simp only[adF,acU,acV]
  omega
 ·cases h
theorem XT (h:Aq l 0 b=some x):pre.length+x.length*E.size<=(pre++(ae E l++post)).length∧((pre++(ae E l++post)).drop pre.length).take (x.length*E.size)=ae E x:=by
 obtain⟨h1,h2,h3,h4,h5⟩:=IH E h
 have:=adp E.size h3
 refine⟨by rw[adF,adF,bG];omega,?_⟩
 rw[List.drop_left,adV (by rw[bG];exact this),h5]
end
section
variable {h:Nat->Option Row} {Γ:Env} {e:Nat} {dst:Option Nat}
def caP:Option (D×List Nat)->Option (List D×List Nat)->Option (List D×List Nat)
 | some (d,fr),some (ds,fr')=>some (d::ds,fr++fr')
 | _,_=>none
theorem Jf {d:D} {ds:List D} {fr fr':List Nat} : caP (some (d,fr)) (some (ds,fr'))=some (d::ds,fr++fr'):=afp
theorem Ju:cH h []=some ([],[]):=afp
theorem EV {d:D} {ds:List D} : cH h (d::ds)=caP (aM h d) (cH h ds):=by
 simp only[cH]
 cases aM h d with
 | none=>rfl
 | some x=>cases cH h ds<;>rfl
theorem QD {k:IntKind} {n:Int} : aM h (.int k n)=some (.int k n,[]):=afp
theorem Jt {b:Bool} : aM h (.bool b)=some (.bool b,[]):=afp
theorem QH {b:ByteArray} : aM h (.str b)=some (.str b,[]):=afp
theorem Ux {a b:Bool} {n:Nat} {xs:List D} : aM h (.sl a b n xs)=some (.sl false false n xs,[]):=afp
theorem QC {xs:List D} : aM h (.agg xs)=some (.agg (xs.map canon),[]):=afp
theorem Ut {f:Nat} : aM h (.fn f)=some (.fn f,[]):=afp
def clC (f k:Nat):Option (List D×List Nat)->Option (D×List Nat)
 | some (ys,fr)=>some (.clo f k ys,fr)
 | none=>none
theorem JE {f k:Nat} {ys:List D} {fr:List Nat} : clC f k (some (ys,fr))=some (.clo f k ys,fr):=afp
theorem Jy {f k:Nat} {xs:List D} : bn h (.clo f k xs)=clC f k (cH h xs):=by
 simp only[bn]
 cases cH h xs<;>rfl
theorem Jq {g k:Nat} {caps args:List D} : gD Γ h e dst (.clo g k caps) args=if caps.all iQ then A9 false Γ h e dst g (caps.take k++(args++caps.drop k)) else none:=by
 simp only[gD,A9,adb,if_false]
theorem RF {k:IntKind} {n:Int} : iQ (.int k n)=true:=afp
theorem MG {b:Bool} : iQ (.bool b)=true:=afp
theorem RI {b:ByteArray} : iQ (.str b)=true:=afp
theorem VO {a b:Bool} {n:Nat} {xs:List D} : iQ (.sl a b n xs)=true:=afp
theorem RE {xs:List D} : iQ (.agg xs)=true:=afp
theorem VK {f:Nat} : iQ (.fn f)=true:=afp
end
theorem Db:l9 []=.tup []:=afp
def Z7 (f:Nat):Arg Unit:=⟨fun _ =>.fn f,fun _ _ _=>rfl⟩
theorem vm7:type_of% (ai @Jf<|ai @Ju<|ai @EV<|ai @QD<|ai @Jt<|ai @QH<|ai @Ux<|ai @QC<|ai @Ut<|ai @JE<|ai @Jy<|ai @Jq<|ai @RF<|ai @MG<|ai @RI<|ai @VO<|ai @RE<|ai @VK<|ai @Db<|ai @w8<|ai @xb<|@Au):=⟨@Jf,@Ju,@EV,@QD,@Jt,@QH,@Ux,@QC,@Ut,@JE,@Jy,@Jq,@RF,@MG,@RI,@VO,@RE,@VK,@Db,@w8,@xb,@Au⟩
theorem vm6:type_of% (ai @MW<|ai @adD<|ai @Q5<|ai @Fy<|ai @yY<|ai @zq<|ai @Jh<|ai @Bc<|ai @Bd<|ai @yX<|ai @Be<|ai @Fv<|ai @Fw<|ai @Kn<|@Fx):=⟨@MW,@adD,@Q5,@Fy,@yY,@zq,@Jh,@Bc,@Bd,@yX,@Be,@Fv,@Fw,@Kn,@Fx⟩
section
variable {T:Nat->Option Ty} {h:Nat->Option Row} {τ:Ty} {q:Nat->Bool}
theorem Vr {x v o:Nat} : mE τ h (.ptr x v o)=m5 τ h x v o (live h x v):=afp
theorem Yp {xs:List D} : mE τ h (.ip xs)=df τ h (.ip xs):=afp
theorem Yn {x v o v' ty:Nat} {c:List D} {fz:Bool} : m5 τ h x v o (some ⟨v',ty,c,fz,true,false⟩)=df τ h (.ptr x v o):=by
 simp only[m5,adY,Bool.and_false,adb,if_false]
theorem Yo {x v o v' ty:Nat} {c:List D} {lst:Bool} : m5 τ h x v o (some ⟨v',ty,c,false,lst,false⟩)=df τ h (.ptr x v o):=by
 simp only[m5,aez,adb,if_false]
def ldA:Option D->Option bI->Option bI
 | some d,_=>some ⟨d,[]⟩
 | none,E=>E
theorem Lo {d:D} {E:Option bI} : ldA (some d) E=some ⟨d,[]⟩:=afp
theorem Lm {E:Option bI} : ldA none E=E:=afp
theorem Ym {x v o v' ty:Nat} {c:List D} : m5 τ h x v o (some ⟨v',ty,c,true,false,false⟩)=if o+τ.size<=c.length then ldA (NY τ.ds.oB ((c.drop o).take τ.size)) (df τ h (.ptr x v o)) else none:=by
 simp only[m5,aeA,Bool.and_self,if_true]
 cases NY τ.ds.oB ((c.drop o).take τ.size)<;>rfl
theorem T9 {x v s o n:Nat} : NY true [.ali x v s o n]=some (.box1 x v s o n):=afp
theorem T8 {x v s o n:Nat} : NY false [.ali x v s o n]=some (.buf x v s o n):=afp
theorem Sb {p:D} {k:IntKind} {n:Int} : cM τ h p (.int k n)=cC τ h p (.int k n):=afp
theorem Nv {p:D} {b:Bool} : cM τ h p (.bool b)=cC τ h p (.bool b):=afp
theorem Sd {p:D} {b:ByteArray} : cM τ h p (.str b)=cC τ h p (.str b):=afp
theorem Wf {p:D} {a b:Bool} {n:Nat} {xs:List D} : cM τ h p (.sl a b n xs)=cC τ h p (.sl a b n xs):=afp
theorem Sc {p:D} {x v o:Nat} : cM τ h p (.ptr x v o)=cC τ h p (.ptr x v o):=afp
theorem Wc {p:D} {xs:List D} : cM τ h p (.ip xs)=cC τ h p (.ip xs):=afp
theorem R9 {p:D} {x v s o n:Nat} : cM τ h p (.buf x v s o n)=cC τ h p (.buf x v s o n):=afp
theorem R7 {p:D} {xs:List D} : cM τ h p (.agg xs)=cC τ h p (.agg xs):=afp
theorem Wb {p:D} {f:Nat} : cM τ h p (.fn f)=cC τ h p (.fn f):=afp
theorem Sa {p:D} {f k:Nat} {xs:List D} : cM τ h p (.clo f k xs)=cC τ h p (.clo f k xs):=afp
theorem Se {p:D}  : cM τ h p (.und)=cC τ h p (.und):=afp
def aaL (τ:Ty) (x o y vy s oy n:Nat):Option Row->Option bI
 | some r=>if τ.size=1∧o=0∧r.cells.length=1∧r.fz=false∧r.lst=false then some ⟨.und,[(x,some ⟨r.v,r.ty,[.ali y vy s oy n],true,false,false⟩)]⟩ else none
 | none=>none
theorem Hh {x o y vy s oy n:Nat} {r:Row} : aaL τ x o y vy s oy n (some r)=if τ.size=1∧o=0∧r.cells.length=1∧r.fz=false∧r.lst=false then some ⟨.und,[(x,some ⟨r.v,r.ty,[.ali y vy s oy n],true,false,false⟩)]⟩ else none:=afp
theorem R8 {x v o y vy s oy n:Nat} : cM τ h (.ptr x v o) (.box1 y vy s oy n)=aaL τ x o y vy s oy n (live h x v):=by
 simp only[cM]
 cases live h x v<;>rfl
def Jb (b:Bool) (T:Nat->Option Ty) (τ:Ty) (h:Nat->Option Row) (ps:List (Nat×D)):Option bI :=
 if b then eg T τ h ps else
  match τ.ds,ps with
  | .struct fs,[(0,.buf x v s o n)]=>if (alive h (.buf x v s o n))∧(fs.all fun f=>(T f.1).isSome)∧fieldAt T fs 0=some (0,1)∧τ.zero.length=1 then some ⟨.box1 x v s o n,[]⟩ else none
  | .struct fs,[(0,.box1 x v s o n)]=>if (alive h (.buf x v s o n))∧(fs.all fun f=>(T f.1).isSome)∧fieldAt T fs 0=some (0,1)∧τ.zero.length=1 then some ⟨.box1 x v s o n,[]⟩ else none
  | _,_=>cE (eg T τ h ps)
theorem Qy {d:Nat} {ps:List (Nat×D)} : oe q T τ h (some d) ps=Jb (q d) T τ h ps:=afp
theorem Ez:Jb false T τ h []=cE (eg T τ h []):=by
 unfold Jb
 rw[if_neg (by simp)]
 cases τ.ds<;>rfl
theorem Uj {cs:List D} {hw:List (Nat×Option Row)} : cE (some ⟨.agg cs,hw⟩)=some ⟨.agg (cs.map canon),hw⟩:=afp
theorem EA {ps:List (Nat×D)} : Jb true T τ h ps=eg T τ h ps:=afp
def Ug (T:Nat->Option Ty) (h:Nat->Option Row) (nz x v s o n:Nat):Ds->Option bI
 | .struct fs=>if (alive h (.buf x v s o n))∧(fs.all fun f=>(T f.1).isSome)∧fieldAt T fs 0=some (0,1)∧nz=1 then some ⟨.box1 x v s o n,[]⟩ else none
 | _=>none
theorem Uh {nz x v s o n:Nat} {fs:List (Nat×Nat)} : Ug T h nz x v s o n (.struct fs)=if (alive h (.buf x v s o n))∧(fs.all fun f=>(T f.1).isSome)∧fieldAt T fs 0=some (0,1)∧nz=1 then some ⟨.box1 x v s o n,[]⟩ else none:=afp
theorem Jc {x v s o n:Nat} : Jb false T τ h [(0,.box1 x v s o n)]=Ug T h τ.zero.length x v s o n τ.ds:=by
 unfold Jb Ug eg
 rw[if_neg (by simp)]
 cases τ.ds<;>rfl
theorem A5 {x v s o n:Nat} : Jb false T τ h [(0,.buf x v s o n)]=Ug T h τ.zero.length x v s o n τ.ds:=by
 unfold Jb Ug eg
 rw[if_neg (by simp)]
 cases τ.ds<;>rfl
def clX:Option (D×List Nat)->Option (D×List Nat)
 | some (d,fr)=>some (.agg [d],fr)
 | none=>none
theorem JL {d:D} {fr:List Nat} : clX (some (d,fr))=some (.agg [d],fr):=afp
theorem Jw {x v s o n:Nat} : bn h (.box1 x v s o n)=clX (Xg x s o n (live h x v)):=by
 simp only[bn,aM,cS]
 cases live h x v with
 | none=>rfl
 | some r=>by_cases hc:o+n*s<=r.cells.length<;>simp[Xg,clX,hc,canon]
theorem VH {x v s o n:Nat} : nm (.box1 x v s o n)=[x]:=afp
theorem Eo {x v s o n:Nat} : alive h (.buf x v s o n)=(mJ h x v).isSome:=afp
theorem FD {fs:List (Nat×Nat)} {ft off:Nat} : fieldAt T ((ft,off)::fs) 0=(T ft).map fun φ=>(off,φ.size):=by
 simp only[fieldAt,List.getElem?_cons_zero]
 cases T ft<;>rfl
end
theorem vm8:type_of% (ai @Vr<|ai @Yp<|ai @Yn<|ai @Yo<|ai @Lo<|ai @Lm<|ai @Ym<|ai @T9<|ai @T8<|ai @Sb<|ai @Nv<|ai @Sd<|ai @Wf<|ai @Sc<|ai @Wc<|ai @R9<|ai @R7<|ai @Wb<|ai @Sa<|ai @Se<|ai @R8<|ai @Hh<|ai @Qy<|ai @EA<|ai @Uh<|ai @A5<|ai @Ez<|ai @Jc<|ai @Uj<|ai @JL<|ai @Jw<|ai @VH<|ai @Eo<|@FD):=⟨@Vr,@Yp,@Yn,@Yo,@Lo,@Lm,@Ym,@T9,@T8,@Sb,@Nv,@Sd,@Wf,@Sc,@Wc,@R9,@R7,@Wb,@Sa,@Se,@R8,@Hh,@Qy,@EA,@Uh,@A5,@Ez,@Jc,@Uj,@JL,@Jw,@VH,@Eo,@FD⟩
theorem abb:type_of% (ai @TP<|ai @X5<|ai @GX<|ai @RW<|ai @V5<|ai @V4<|ai @Mf<|ai @Me<|ai @YP<|ai @FN<|ai @FM<|ai @Kv<|ai @Gj<|ai @CD<|ai @Mh<|ai @RB<|ai @RL<|ai @RV<|ai @Ly<|ai @Vw<|ai @Rn<|ai @FX<|ai @Rl<|ai @Lp<|ai @FY<|ai @Lq<|ai @Rm<|ai @R2<|ai @G8<|ai @G9<|ai @GZ<|ai @Hb<|ai @G7<|ai @Nq<|ai @Ha<|ai @Nr<|ai @R1<|ai @Np<|ai @Hf<|@jj):=⟨@TP,@X5,@GX,@RW,@V5,@V4,@Mf,@Me,@YP,@FN,@FM,@Kv,@Gj,@CD,@Mh,@RB,@RL,@RV,@Ly,@Vw,@Rn,@FX,@Rl,@Lp,@FY,@Lq,@Rm,@R2,@G8,@G9,@GZ,@Hb,@G7,@Nq,@Ha,@Nr,@R1,@Np,@Hf,@jj⟩
theorem abc:type_of% (ai @Q8<|ai @Lj<|ai @K5<|ai @Ld<|ai @KW<|ai @Gf<|ai @Mt<|ai @CH<|ai @Mv<|ai @Mu<|ai @Gn<|ai @Ms<|ai @Mr<|ai @G3<|ai @Hd<|ai @G2<|ai @Hc<|ai @RY<|ai @R3<|ai @G4<|ai @He<|ai @Nk<|ai @Ns<|ai @F7<|ai @F8<|ai @Nn<|ai @G5<|ai @No<|ai @G6<|ai @R0<|ai @Nm<|ai @Et<|ai @Es<|@mJ.eq_1):=⟨@Q8,@Lj,@K5,@Ld,@KW,@Gf,@Mt,@CH,@Mv,@Mu,@Gn,@Ms,@Mr,@G3,@Hd,@G2,@Hc,@RY,@R3,@G4,@He,@Nk,@Ns,@F7,@F8,@Nn,@G5,@No,@G6,@R0,@Nm,@Et,@Es,@mJ.eq_1⟩
theorem abd:type_of% (ai @U7<|ai @Rj<|ai @Rg<|ai @Rh<|ai @Rd<|ai @RD<|ai @Ge<|ai @Gh<|ai @LG<|ai @LJ<|ai @Cs<|ai @LM<|ai @LI<|ai @F3<|ai @LD<|ai @LC<|ai @LH<|ai @Mp<|ai @Mm<|ai @CG<|ai @Mq<|ai @Mo<|ai @Gm<|ai @Ml<|ai @Mk<|ai @Mn<|ai @EO<|ai @y8<|ai @y6<|ai @y7<|ai @JO<|ai @JP<|ai @UZ<|ai @QW<|ai @UY<|ai @QV<|ai @J9<|ai @Ka<|ai @Kb<|ai @Jl<|ai @EM<|ai @Ni<|ai @G0<|ai @Nj<|ai @G1<|ai @xk<|ai @dJ<|ai @xj<|ai @dI<|ai @Q3<|ai @Km<|ai @QZ<|ai @Fu<|@Kk):=⟨@U7,@Rj,@Rg,@Rh,@Rd,@RD,@Ge,@Gh,@LG,@LJ,@Cs,@LM,@LI,@F3,@LD,@LC,@LH,@Mp,@Mm,@CG,@Mq,@Mo,@Gm,@Ml,@Mk,@Mn,@EO,@y8,@y6,@y7,@JO,@JP,@UZ,@QW,@UY,@QV,@J9,@Ka,@Kb,@Jl,@EM,@Ni,@G0,@Nj,@G1,@xk,@dJ,@xj,@dI,@Q3,@Km,@QZ,@Fu,@Kk⟩
theorem v:type_of% (ai @vmc<|ai @vmk<|ai @vm1<|ai @vm2<|ai @vm3<|ai @vm4<|ai @vm5<|ai @vm6<|ai @vm7<|ai @vm8<|ai @aa9<|ai @abb<|ai @abc<|ai @abd<|ai @vmu<|ai @Option.toList_some.{0}<|@Option.toList_none.{0}):=⟨@vmc,@vmk,@vm1,@vm2,@vm3,@vm4,@vm5,@vm6,@vm7,@vm8,@aa9,@abb,@abc,@abd,@vmu,@Option.toList_some.{0},@Option.toList_none.{0}⟩
def Cw {α:Type} : List (Int×α)->List Int
 | []=>[]
 | (k,_)::m=>k::Cw m
def Tn {α:Type} (A:Arg α):List (Int×α)->List D
 | []=>[]
 | (_,v)::m=>A.d v::Tn A m
section
variable {α:Type} {A:Arg α}
theorem L4:Cw ([]:List (Int×α))=[]:=afp
theorem L8:Tn A []=[]:=afp
theorem L3 (n:Int):∀m:List (Int×α),(Cw m).contains n=Xt m n
 | []=>rfl
 | (k,v)::m=>by
  have:=L3 n m
  simp only[Cw,adD,Xt,this]
  congr 1
  exact Bool.beq_comm
theorem map_inj:∀ {m m':List (Int×α)},Cw m=Cw m'->Tn A m=Tn A m'->m=m'
 | [],[],_,_=>rfl
 | [],(k,v)::m',h,_=>by simp[Cw]at h
 | (k,v)::m,[],h,_=>by simp[Cw]at h
 | (k,v)::m,(k',v')::m',h,g=>by
  simp only[Cw,acZ]at h
  simp only[Tn,acZ]at g
  rw[h.1,A.inj _ _ g.1,map_inj h.2 g.2]
end
def eMp {α:Type} (A:Arg α):hY (List (Int×α)):=⟨fun m=>[.mpc (Cw m) (Tn A m)],1,fun _=>rfl,by decide,fun x y h=>by
 simp only[acZ,D.mpc.injEq,and_true]at h
 exact map_inj h.1 h.2⟩
theorem Kc {α:Type} (A:Arg α):(eMp A).size=1:=afp
def aIp {α:Type} (e:hY α):Arg α:=⟨fun x =>.ip (e.cells x),fun x y h=>e.inj _ _ (by simpa using h)⟩
theorem Yg {α:Type} (e:hY α) (x:α):(aIp e).d x=.ip (e.cells x):=afp
section
variable {T:Nat->Option Ty} {h:Nat->Option Row} {Γ:Env} {e:Nat} {dst:Option Nat}
def lvM (v:Nat):Option Row->Option (List Int×List D)
 | some r=>if r.v=v∧r.mp=true then (match r.cells with | [.mpc ks vs]=>some (ks,vs)|_=>none) else none
 | none=>none
theorem Lx {x v:Nat} : gU h x v=lvM v (h x):=by
 unfold gU lvM
 cases h x<;>rfl
theorem LO {v ty:Nat} {ks:List Int} {vs:List D} {fz lst:Bool} : lvM v (some ⟨v,ty,[.mpc ks vs],fz,lst,true⟩)=some (ks,vs):=by simp[lvM]
def lkK (ks:List Int) (n:Int):Bool:=ks.contains n
theorem Rq {α:Type} {m:List (Int×α)} {n:Int} : lkK (Cw m) n=Xt m n:=L3 n m
def lkE (ok:Bool) (z:D) (n:Int):Option (List Int×List D)->Option bI
 | some (ks,vs)=>some ⟨if ok then .tup [ss z ks vs n,.bool (lkK ks n)] else ss z ks vs n,[]⟩
 | none=>none
theorem YF {z:D} {n:Int} {ks:List Int} {vs:List D} : lkE true z n (some (ks,vs))=some ⟨.tup [ss z ks vs n,.bool (lkK ks n)],[]⟩:=afp
theorem YE {z:D} {n:Int} {ks:List Int} {vs:List D} : lkE false z n (some (ks,vs))=some ⟨ss z ks vs n,[]⟩:=afp
theorem L6 {x v:Nat} : mapOf h (.mp x v)=gU h x v:=afp
theorem F5 {ks:List Int} {vs:List D} : mapOf h (.mpc ks vs)=some (ks,vs):=afp
def muR (h:Nat->Option Row) (y:Nat) (n:Int) (d:D) (fr:List Nat) (ks:List Int) (vs:List D):Option Row->Option bI
 | some r=>if r.fz=false∧fr.contains y=false then some ⟨.und,ik h fr++[(y,some ⟨r.v,r.ty,[.mpc (An ks n) (Iz ks vs n d)],false,true,true⟩)]⟩ else none
 | none=>none
theorem Md {y v ty:Nat} {n:Int} {d:D} {fr:List Nat} {ks:List Int} {vs:List D} {cells:List D} {lst mp:Bool} : muR h y n d fr ks vs (some ⟨v,ty,cells,false,lst,mp⟩)=if fr.contains y=false then some ⟨.und,ik h fr++[(y,some ⟨v,ty,[.mpc (An ks n) (Iz ks vs n d)],false,true,true⟩)]⟩ else none:=by
 simp only[muR,true_and]
def muM (h:Nat->Option Row) (y:Nat) (n:Int) (d:D) (fr:List Nat):Option (List Int×List D)->Option bI
 | some (ks,vs)=>muR h y n d fr ks vs (h y)
 | none=>none
theorem Mc {y:Nat} {n:Int} {d:D} {fr:List Nat} {ks:List Int} {vs:List D} : muM h y n d fr (some (ks,vs))=muR h y n d fr ks vs (h y):=afp
def muE (h:Nat->Option Row) (y v:Nat) (n:Int):Option (D×List Nat)->Option bI
 | some (d,fr)=>muM h y n d fr (gU h y v)
 | none=>none
theorem Mb {y v:Nat} {n:Int} {d:D} {fr:List Nat} : muE h y v n (some (d,fr))=muM h y n d fr (gU h y v):=afp
theorem NB {k:IntKind} {n:Int} : wN h (.int k n)=some (.int k n,[]):=afp
theorem Ho {b:Bool} : wN h (.bool b)=some (.bool b,[]):=afp
theorem NA {xs:List D} : wN h (.agg xs)=some (.agg (xs.map canon),[]):=afp
def ldP (τ:Ty) (h:Nat->Option Row) (x v y:Nat):Option Row->Option bI
 | some r=>match r.cells with
  | [.alm y' v']=>if r.fz=true∧r.lst=false∧τ.size=1∧τ.ds.oB=false then some ⟨.mp y' v',[]⟩ else none
  | _=>none
 | none=>oh τ h x v y (kz h x v)
theorem Yq {τ:Ty} {x v y:Nat} : mE τ h (.pm x v y)=ldP τ h x v y (live h x v):=by
 simp only[mE]
 cases live h x v with
 | none=>rfl
 | some r =>
  obtain⟨v',ty,cells,fz,lst,mp⟩:=r
  rcases cells with _|⟨c,_|⟨c',cs⟩⟩<;>rfl
theorem Lr {τ:Ty} {x v y:Nat} : ldP τ h x v y none=oh τ h x v y (kz h x v):=afp
def ldQ (τ:Ty) (h:Nat->Option Row) (x y s n:Nat):Option Row->Option bI
 | some r=>if y=1000000+x∧r.mp=false∧r.lst=true∧r.cells.length=n*s∧τ.size=1 then some ⟨if τ.ds.oB then .agg [.sl false false n r.cells] else .sl false false n r.cells,ik h [y]⟩ else none
 | none=>none
theorem Vq {τ:Ty} {r:Row} {x v y s n:Nat} : oh τ h x v y (some (r,y,s,n))=ldQ τ h x y s n (h y):=by
 simp only[oh,ldQ,PK]
 cases h y with
 | none=>rfl
 | some q=>simp
theorem Lt {ty b:Nat} {ds:Ds} {z:List Value} {q:Bool} {x y s n e':Nat} {cells:List D} {fz:Bool} : ldQ ⟨ds,1,b,z,q⟩ h x y s n (some ⟨e',ty,cells,fz,true,false⟩)=if y=1000000+x∧cells.length=n*s then some ⟨if ds.oB then .agg [.sl false false n cells] else .sl false false n cells,ik h [y]⟩ else none:=by
 simp[ldQ]
def Zl (T:Nat->Option Ty) (x v k:Nat):Option (Row×Nat×Nat×Nat)->Option (Nat×Nat)->Option bI
 | some _,some (ft,0)=>match T ft with|some φ=>if φ.size=0 then none else some ⟨.pm x v k,[]⟩|none=>none
 | _,_=>none
theorem FL {T:Nat->Option Ty} {x v k ft:Nat} {r:Row×Nat×Nat×Nat} : Zl T x v k (some r) (some (ft,0))=match T ft with|some φ=>if φ.size=0 then none else some ⟨.pm x v k,[]⟩|none=>none:=afp
theorem Va {T:Nat->Option Ty} {b c:Nat} {z:List Value} {q:Bool} {fs:List (Nat×Nat)} {x v k i:Nat} : dr T ⟨.struct fs,b,c,z,q⟩ h i (.pm x v k)=Zl T x v k (kz h x v) fs[i]?:=by
 simp only[dr,Zl]
 cases kz h x v with
 | none=>rfl
 | some r=>simp only;generalize fs[i]? = z;rcases z with _|⟨ft,_|off⟩<;>first|rfl|(simp;done)|(simp only;cases T ft<;>rfl)
def R6 (x y s oy n k : Nat) : Option Row -> Option Row -> Option bI
  | some r, some q => if oy = 0 ∧ r.cells.length = 1 ∧ r.fz = false ∧ r.lst = false ∧ q.fz = false ∧ q.lst = true ∧ q.cells.length = n * s ∧ x ≠ y ∧ k = 1000000 + x ∧ x < 1000000 then
          some ⟨.und, [(y, none), (k, some ⟨0, q.ty, q.cells, false, true, false⟩), (x, some ⟨r.v, r.ty, [.ph k s n], false, false, true⟩)]⟩ else none
  | _, _ => none
theorem We {ds:Ds} {b:Nat} {z:List Value} {q:Bool} {x v y vy s oy n k:Nat} : cM ⟨ds,1,b,z,q⟩ h (.pm x v k) (.box1 y vy s oy n)=R6 x y s oy n k (live h x v) (live h y vy):=by
 simp only[cM,R6,PK,true_and]
 cases live h x v with
 | none=>rfl
 | some r=>cases live h y vy<;>rfl
theorem Dv {x y s oy n k v ty e' ty':Nat} {c:D} {cells:List D} : R6 x y s oy n k (some ⟨v,ty,[c],false,false,false⟩) (some ⟨e',ty',cells,false,true,false⟩)=if oy=0∧cells.length=n*s∧¬x=y∧k=1000000+x∧x<1000000 then
  some ⟨.und,[(y,none),(k,some ⟨0,ty',cells,false,true,false⟩),(x,some ⟨v,ty,[.ph k s n],false,false,true⟩)]⟩ else none:=by
 simp[R6]
theorem Ls {v ty y' v':Nat} {b k el:Nat} {z:List Value} {q mp:Bool} {x0 v0 y0:Nat} : ldP ⟨.map k el,1,b,z,q⟩ h x0 v0 y0 (some ⟨v,ty,[.alm y' v'],true,false,mp⟩)=some ⟨.mp y' v',[]⟩:=by
 simp[ldP,Ds.oB]
def XZ (τ:Ty) (x y y' v':Nat) (m:Bool):Option Row->Option bI
 | some r=>if τ.size=1∧y'=y∧r.cells.length=1∧r.fz=false∧r.lst=false∧m then some ⟨.und,[(x,some ⟨r.v,r.ty,[.alm y' v'],true,false,false⟩)]⟩ else none
 | none=>none
theorem Wd {τ:Ty} {x v y y' v':Nat} : cM τ h (.pm x v y) (.mp y' v')=XZ τ x y y' v' (gU h y v').isSome (live h x v):=by
 simp only[cM,XZ]
 cases live h x v<;>rfl
theorem Hg {x y v' v ty:Nat} {c:D} {b:Nat} {ds:Ds} {z:List Value} {q mp:Bool} : XZ ⟨ds,1,b,z,q⟩ x y y v' true (some ⟨v,ty,[c],false,false,mp⟩)=some ⟨.und,[(x,some ⟨v,ty,[.alm y v'],true,false,false⟩)]⟩:=by
 simp[XZ]
theorem YI {x v:Nat} : nm (.mp x v)=[x]:=afp
theorem VI {ks:List Int} {vs:List D} : nm (.mpc ks vs)=[]:=afp
theorem YJ {x v y:Nat} : nm (.pm x v y)=[x,y]:=afp
def clM (x:Nat):Option (List Int×List D)->Option (D×List Nat)
 | some (ks,vs)=>some (.mpc ks vs,[x])
 | none=>none
theorem JG {x:Nat} {ks:List Int} {vs:List D} : clM x (some (ks,vs))=some (.mpc ks vs,[x]):=afp
theorem QK {x v:Nat} : bn h (.mp x v)=clM x (gU h x v):=by
 simp only[bn,aM,clM]
 cases gU h x v<;>rfl
theorem JA {ks:List Int} {vs:List D} : bn h (.mpc ks vs)=some (.mpc ks vs,[]):=afp
theorem Uv {x v:Nat} : aM h (.mp x v)=clM x (gU h x v):=by
 simp only[aM,clM]
 cases gU h x v<;>rfl
theorem QF {ks:List Int} {vs:List D} : aM h (.mpc ks vs)=some (.mpc ks vs,[]):=afp
theorem Uu {xs:List D} : aM h (.ip xs)=some (.ip xs,[]):=afp
theorem QG {x v o:Nat} : aM h (.ptr x v o)=ZY x o (live h x v):=by
 simp only[aM]
 cases live h x v with
 | none=>rfl
 | some r=>simp only[ZY]
def clN (x y:Nat):Option (List Int×List D)->Option (D×List Nat)
 | some (ks,vs)=>some (.ip [.mpc ks vs],[x,y])
 | none=>none
theorem JH {x y:Nat} {ks:List Int} {vs:List D} : clN x y (some (ks,vs))=some (.ip [.mpc ks vs],[x,y]):=afp
def clQ (h:Nat->Option Row) (x y:Nat):Option Row->Option (D×List Nat)
 | some r=>match r.cells with
  | [.alm y' v']=>if r.fz=true∧r.lst=false∧y'=y then clN x y (gU h y v') else none
  | _=>none
 | none=>none
theorem JK {x y v' v ty:Nat} {mp:Bool} : clQ h x y (some ⟨v,ty,[.alm y v'],true,false,mp⟩)=clN x y (gU h y v'):=by
 simp[clQ]
theorem Uw {x v y:Nat} : aM h (.pm x v y)=clQ h x y (live h x v):=by
 simp only[aM]
 cases live h x v with
 | none=>rfl
 | some r =>
  obtain⟨v',ty,cells,fz,lst,mp⟩:=r
  rcases cells with _|⟨c,_|⟨c',cs⟩⟩<;>rfl
theorem RH {x v o:Nat} : iQ (.ptr x v o)=true:=afp
theorem VN {x v y:Nat} : iQ (.pm x v y)=true:=afp
theorem VL {xs:List D} : iQ (.ip xs)=true:=afp
theorem VM {x v:Nat} : iQ (.mp x v)=true:=afp
theorem RG {ks:List Int} {vs:List D} : iQ (.mpc ks vs)=true:=afp
theorem Vd {v ty:Nat} {cells:List D} {fz mp:Bool} : p8 ⟨v,ty,cells,fz,true,mp⟩=⟨v,ty,cells,true,true,mp⟩:=by cases fz<;>rfl
theorem Rf {d:Nat} : a6.hint d=none:=afp
theorem KZ {f:Nat} {l:Bool} {G:Option (D×Row)->List D->Option (RK×Option Row)} {d:Nat} : (Am.ext Γ f l G).hint d=Γ.hint d:=afp
theorem FV {d i:Nat} : (Am.keep d Γ).hint i=Γ.hint i:=afp
theorem FT {d y i:Nat} : (Am.vO d y Γ).hint i=if i=d then some y else Γ.hint i:=afp
theorem K6 {d y i:Nat} : (Am.vO d y Γ).own i=Γ.own i:=afp
theorem Cj {d y i:Nat} : (Am.vO d y Γ).lends i=Γ.lends i:=afp
theorem K7 {d y i:Nat} {lent:Option (D×Row)} {acw:List D} : (Am.vO d y Γ).sem i lent acw=Γ.sem i lent acw:=afp
theorem FK {ks:List Int} {vs:List D} : fM (.mpc ks vs)=false:=afp
theorem ET {ks:List Int} {vs:List D} : canon (.mpc ks vs)=.mpc ks vs:=afp
theorem Bk {ks:List Int} {vs:List D} : e9 (.mpc ks vs)=.mpc ks vs:=afp
end
structure sD {α:Type} (E:hY α) (C:List D) (o:Nat) (l:List α):Prop where
 fit:o+l.length*E.size<=C.length
 eq:(C.drop o).take (l.length*E.size)=ae E l
theorem sD.self {α:Type} (E:hY α) (l:List α):sD E (ae E l) 0 l:=⟨by rw[bG];omega,by rw[adX,<- bG,aeC]⟩
theorem sD.split {α:Type} {E:hY α} {C:List D} {o:Nat} {l:List α} (F:sD E C o l):C.drop o=ae E l++C.drop (o+l.length*E.size):=by
 rw[<- aen]
 conv=>lhs;rw[<- aeo (l.length*E.size) (C.drop o)]
 rw[F.eq]
theorem sD.idx {α:Type} {E:hY α} {C:List D} {o:Nat} {l:List α} {i:Int} {x:α} (F:sD E C o l) (h:P.idx l i=some x):o+i.toNat*E.size+E.size<=C.length∧∃rest,C.drop (o+i.toNat*E.size)=E.cells x++rest:=by
 have h1:=jn E h
 have h2:=F.fit
 refine⟨by omega,ae E (l.drop (i.toNat+1))++C.drop (o+l.length*E.size),?_⟩
 rw[<- aen,F.split,adS (by rw[bG];omega),xq E h,adR]
theorem sD.tail {α:Type} {E:hY α} {C:List D} {o:Nat} {l m:List α} {a:Int} (F:sD E C o l) (h:Aq l a (l.length:Int)=some m):sD E C (o+a.toNat*E.size) m:=by
 obtain⟨h1,h2,h3,h4,h5⟩:=V6 E h
 have h6:=F.fit
 have h7:a.toNat*E.size+m.length*E.size=l.length*E.size:=by rw[<- adJ];congr 1;omega
 refine⟨by omega,?_⟩
 rw[<- aen,F.split,adS (by rw[bG];omega),adV (by rw[acV,bG];omega),h5]
theorem abe:type_of% (ai @L4<|ai @L8<|ai @Lx<|ai @LO<|ai @Rq<|ai @YF<|ai @YE<|ai @L6<|ai @F5<|ai @Md<|ai @Mc<|ai @Mb<|ai @NB<|ai @Ho<|ai @NA<|ai @Yq<|ai @Ls<|ai @Wd<|ai @Hg<|ai @YI<|ai @VI<|@YJ):=⟨@L4,@L8,@Lx,@LO,@Rq,@YF,@YE,@L6,@F5,@Md,@Mc,@Mb,@NB,@Ho,@NA,@Yq,@Ls,@Wd,@Hg,@YI,@VI,@YJ⟩
theorem abf:type_of% (ai @JG<|ai @QK<|ai @JA<|ai @Uv<|ai @QF<|ai @Uu<|ai @QG<|ai @JH<|ai @JK<|ai @Uw<|ai @RH<|ai @VN<|ai @VL<|ai @VM<|ai @RG<|ai @Ve<|ai @Vc<|ai @Vd<|ai @Rf<|ai @KZ<|ai @FV<|ai @FT<|ai @K6<|ai @Cj<|ai @K7<|ai @Gx<|ai @Gw<|ai @FK<|ai @ET<|ai @Bk<|ai @Kc<|@Yg):=⟨@JG,@QK,@JA,@Uv,@QF,@Uu,@QG,@JH,@JK,@Uw,@RH,@VN,@VL,@VM,@RG,@Ve,@Vc,@Vd,@Rf,@KZ,@FV,@FT,@K6,@Cj,@K7,@Gx,@Gw,@FK,@ET,@Bk,@Kc,@Yg⟩
theorem abg:type_of% (ai @zf<|ai @zj<|ai @By<|ai @BB<|ai @vG<|ai @vK<|ai @Bx<|ai @BA<|ai @vY<|ai @xM<|ai @sC<|ai @xL<|ai @Ud<|ai @Qq<|@Ue):=⟨@zf,@zj,@By,@BB,@vG,@vK,@Bx,@BA,@vY,@xM,@sC,@xL,@Ud,@Qq,@Ue⟩
theorem aba:type_of% (ai @Lr<|ai @Vq<|ai @Lt<|ai @We<|ai @Dv<|ai @FL<|@Va):=⟨@Lr,@Vq,@Lt,@We,@Dv,@FL,@Va⟩
theorem vi:type_of% (ai @abe<|ai @abf<|ai @aba<|@abg):=⟨@abe,@abf,@aba,@abg⟩
end Go.Proofs.Ytchndpjlijbplaa.Am
namespace Go.Proofs.Ytchndpjlijbplaa.P
open Go.RowKit
set_option linter.unusedSimpArgs false
set_option linter.unusedVariables false
theorem wrap64 {x:Int} (h1 : -9223372036854775808<=x) (h2:x<9223372036854775808):IntKind.i64.wrap x=x:=by
 have key:IntKind.i64.wrap x=if x % 18446744073709551616>=9223372036854775808 then x % 18446744073709551616-18446744073709551616 else x % 18446744073709551616:=by
  unfold IntKind.wrap
  by_cases h:x % 18446744073709551616>=9223372036854775808
  ·rw[if_pos h];exact if_pos (by simpa [IntKind.bits,IntKind.signed] using h)
  ·rw[if_neg h];exact if_neg (by simpa [IntKind.bits,IntKind.signed] using h)
 rw[key]
 split<;>omega
theorem K9 {α:Type} {l:List α} {i:Int} {x:α} (h0:0<=i) (h:l[i.toNat]? = some x):P.idx l i=some x:=by
 have:=(ac4.1 h).1
 unfold P.idx
 rw[if_pos ⟨h0,by omega⟩,h]
theorem bO {α:Type} {l:List α} {i:Nat} (h:i<l.length):P.idx l (i:Int)=some (l[i]):=K9 (by omega) (by simp[h])
theorem IG {α:Type} {l:List α} {i:Nat} (h:i<=l.length):Aq l 0 (i:Int)=some (l.take i):=by
 unfold Aq
 rw[if_pos ⟨by omega,by omega,by omega⟩]
 simp
end Go.Proofs.Ytchndpjlijbplaa.P
namespace Go.Proofs.Ytchndpjlijbplaa.Am
open Go.RowKit Go.Deep Go.ChangeShapes Go.WideShapes
set_option linter.unusedSimpArgs false
set_option linter.unusedVariables false
def DJ (T:Nat->Option Ty):Nat->Nat->List D->Prop
 | 0,_,_=>False
 | n+1,t,xs =>
  match T t with
  | none=>False
  | some τ=>xs.length=τ.size ∧
   match τ.ds with
   | .int k=>∃i,xs=[.int k i]∧(Lit.int k i).wf=true
   | .bool=>∃b,xs=[.bool b]
   | .str=>∃s:ByteArray,xs=[.str s]∧s.size<=140737488351232
   | .slice e=>∃len ys φ,xs=[.sl false false len ys]∧len*φ.bytes<=140737488351232∧T e=some φ∧ys.length=len*φ.size∧∀i,i<len->DJ T n e ((ys.drop (i*φ.size)).take φ.size)
   | .struct fs=>∀f∈fs,∃φ,T f.1=some φ∧DJ T n f.1 ((xs.drop f.2).take φ.size)
   | .arr m e=>∃φ,T e=some φ∧∀i,i<m->DJ T n e ((xs.drop (i*φ.size)).take φ.size)
   | .map _ _=>False
   | .other=>False
def zy (T:Nat->Option Ty):Nat->List (Nat×Nat)->Nat->Bool
 | o,[],z=>o==z
 | o,(ft,off)::fs,z=>off==o&&match T ft with|some φ=>zy T (o+φ.size) fs z|none=>false
def Tr (T:Nat->Option Ty):Nat->Nat->Bool
 | 0,_=>false
 | n+1,t =>
  match T t with
  | none=>false
  | some τ =>
   match τ.ds with
   | .int _ | .bool | .str=>τ.size==1
   | .slice e=>τ.size==1&&Tr T n e&&(match T e with|some φ=>decide (0<φ.size)|none=>false)
   | .struct fs=>zy T 0 fs τ.size&&fs.all fun f=>Tr T n f.1
   | .arr m e=>Tr T n e&&(match T e with|some φ=>τ.size==m*φ.size|none=>false)
   | .map _ _=>false
   | .other=>false
def lM (w:World) (M:Nat->Prop) (xs:List D) (cs:List Value):Prop:=xs.length=cs.length∧∀(j:Nat) (x:D),xs[j]? = some x->aT x=true∧∃v,cs[j]? = some v∧RP w M x v
theorem lM.append {w:World} {M:Nat->Prop} {xs ys:List D} {cs ds:List Value} (h:lM w M xs cs) (k:lM w M ys ds):lM w M (xs++ys) (cs++ds):=by
 refine⟨by simp[h.1,k.1],fun j x hj =>?_⟩
 rw[adk]at hj ⊢
 rw[<- h.1]
 split at hj
 ·rename_i hlt;rw[if_pos hlt];exact h.2 j x hj
 ·rename_i hlt;rw[if_neg hlt];exact k.2 _ x hj
theorem B4 {α:Type} (s:Nat):∀(ls:List (List α)),(∀l∈ls,l.length=s)->∀(i:Nat) (l:List α),ls[i]? = some l->(ls.flatten.drop (i*s)).take s=l
 | [],_,i,l,h=>by simp at h
 | a::ls,hl,0,l,h=>by
  simp only[List.getElem?_cons_zero,acK]at h
  subst h
  have:a.length=s:=hl a (by simp)
  simp[this]
 | a::ls,hl,i+1,l,h=>by
  have ha:a.length=s:=hl a (by simp)
  rw[List.flatten_cons,aek,ael (by rw[ha,adz];omega),aei,ha,adz,aem]
  exact B4 s ls (fun x hx=>hl x (ad4 _ hx)) i l h
theorem Ks {α:Type} (s:Nat):∀(ls:List (List α)),(∀l∈ls,l.length=s)->ls.flatten.length=ls.length*s
 | [],_=>by simp
 | a::ls,hl=>by
  rw[List.flatten_cons,adF,Ks s ls (fun x hx=>hl x (ad4 _ hx)),hl a (by simp),ac1,adz]
  omega
section
variable {H:Type} {enc:TypeId×Value->H} {P:Program} {w:World} {base:Nat} {spare:Nat->Bool} {held:Bool} {T:Nat->Option Ty}
theorem fP.bytesOf {P:Program} {t:Nat} {τ:Ty} (h:fP P t τ):P.bytesOf t=τ.bytes:=by
 have:=h.info
 unfold Program.bytesOf
 cases hi:P.info? t with
 | none=>rw[hi]at this;simp at this
 | some i=>rw[hi]at this;simp only[Option.map_some,acK,Prod.mk.injEq]at this;simp[this.2.1]
def Reach (P:Program) (t:Nat) (d:DataW H):Prop:=∀k∈d.weights P t,k<=140737488351232
theorem yI {e:TypeId} : ∀(l:List (DataW H)) (j:Nat) (d:DataW H),l[j]? = some d->∀k∈d.weights P e,k∈DataW.weightsAll P e l
 | x::l,0,d,h,k,hk=>by
  simp only[List.getElem?_cons_zero,acK]at h
  subst h
  simp only[DataW.weightsAll,adL]
  exact .inl hk
 | x::l,j+1,d,h,k,hk=>by
  simp only[DataW.weightsAll,adL]
  exact .inr (yI l j d (by simpa using h) k hk)
 | [],j,d,h,k,hk=>by simp at h
theorem fP.cells {P:Program} {t:Nat} {τ:Ty} (h:fP P t τ):P.cellsOf t=τ.size:=by
 have:=h.info
 unfold Program.cellsOf
 cases hi:P.info? t with
 | none=>rw[hi]at this;simp at this
 | some i=>rw[hi]at this;simp only[Option.map_some,acK,Prod.mk.injEq]at this;simp[this.1]
theorem Rk {T:Nat->Option Ty} {w:World} {M:Nat->Prop} {cs:List Value} : ∀(fs:List (Nat×Nat)) (o z:Nat) (f:Nat×Nat->List D),zy T o fs z=true->cs.length=z ->
  (∀p∈fs,∃φ,T p.1=some φ∧lM w M (f p) ((cs.drop p.2).take φ.size))->o<=z->∃xs,lM w M xs (cs.drop o)∧∀p∈fs,∃φ,T p.1=some φ∧o<=p.2∧(xs.drop (p.2-o)).take φ.size=f p
 | [],o,z,f,hl,hc,_,_=>by
  simp only[zy,beq_iff_eq]at hl
  refine⟨[],⟨by rw[acV,hc,hl];simp,fun j x hj=>by simp at hj⟩,fun p hp=>by simp at hp⟩
 | (ft,off)::fs,o,z,f,hl,hc,hp,hoz=>by
  simp only[zy,ade,beq_iff_eq]at hl
  obtain⟨rfl,hl⟩:=hl
  obtain⟨φ,hφ,hR⟩:=hp (ft,off) (by simp)
  simp only[hφ]at hl
  have hz:off+φ.size<=z:=by
   have:∀(fs:List (Nat×Nat)) (o:Nat),zy T o fs z=true->o<=z:=by
    intro fs
    induction fs with
    | nil=>intro o h;simp only[zy,beq_iff_eq]at h;omega
    | cons p fs ih =>
     intro o h
     obtain⟨a,b⟩:=p
     simp only[zy,ade]at h
     have h2:=h.2
     split at h2
     ·have:=ih _ h2;omega
     ·cases h2
   exact this fs _ hl
  obtain⟨xs,hx,hxs⟩:=Rk fs (off+φ.size) z f hl hc (fun p h=>hp p (ad4 _ h)) hz
  have hfl:(f (ft,off)).length=φ.size:=by
   rw[hR.1,acU,acV,hc];omega
  refine⟨f (ft,off)++xs,?_,fun p h =>?_⟩
  ·have:=hR.append hx
   rw[<- aen,aeo]at this
   exact this
  ·rcases acI.1 h with rfl|h
   ·exact⟨φ,hφ,acB _,by simp only[adH,adX];rw[adV (by omega),adW (by omega)]⟩
   ·obtain⟨ψ,h1,h2,h3⟩:=hxs p h
    refine⟨ψ,h1,by omega,?_⟩
    rw[aek,ael (by omega),aei,hfl]
    have:p.2-off-φ.size=p.2-(off+φ.size):=by omega
    rw[this,h3]
theorem lM.one {w:World} {M:Nat->Prop} {x:D} {v:Value} (hp:aT x=true) (h:RP w M x v):lM w M [x] [v]:=by
 refine⟨rfl,fun j y hj =>?_⟩
 match j,hj with
 | 0,hj=>simp only[List.getElem?_cons_zero,acK]at hj;subst hj;exact⟨hp,v,rfl,h⟩
 | j+1,hj=>simp at hj
theorem lM.flat {w:World} {M:Nat->Prop} {cs:List Value} {s:Nat} : ∀(ls:List (List D)) (o:Nat),(∀(i:Nat) l,ls[i]? = some l->lM w M l ((cs.drop (o+i*s)).take s))->(∀l∈ls,l.length=s)->lM w M ls.flatten ((cs.drop o).take (ls.length*s))
 | [],o,_,_=>⟨by simp,fun j x hj=>by simp at hj⟩
 | a::ls,o,h,hl=>by
  have h0:=h 0 a rfl
  have h1:=lM.flat ls (o+s) (fun i l hi=>by
   have:=h (i+1) l (by simpa using hi)
   rw[adz]at this
   rw[show o+s+i*s=o+(i*s+s) by omega]
   exact this) (fun l hx=>hl l (ad4 _ hx))
  have:=h0.append h1
  rw[aep,ada]at this
  rw[List.flatten_cons,ac1,adz,Nat.add_comm (ls.length*s) s,List.take_add,aen]
  exact this
theorem Y6 (hT:jf P T) {M:Nat->Prop} (hM:∀b,base<=b->b<w.heap.size->¬M b):∀(n t fuel:Nat) (cs:List Value) (x:DataW H×List MemPlace),Tr T n t=true->DataW.trod enc P w base spare held fuel t cs=some x->Reach P t x.1->∃xs,DJ T n t xs∧lM w M xs cs:=by
 intro n
 induction n with
 | zero=>intro t fuel cs x h;cases h
 | succ n ih =>
  intro t fuel cs x hok h hw
  unfold Tr at hok
  unfold DJ
  cases hτ:T t with
  | none=>rw[hτ]at hok;cases hok
  | some τ =>
   rw[hτ]at hok
   simp only at hok ⊢
   obtain⟨d,hd,hc⟩:=under hT hτ
   cases hds:τ.ds with
   | int k =>
    rw[hds]at hok hc
    simp only[beq_iff_eq]at hok
    have hd':=w4 hc
    subst hd'
    obtain⟨i,rfl,_,hw⟩:=DataW.trod_int hd h
    exact⟨[.int k i],⟨by rw[hok];rfl,i,rfl,hw⟩,.one rfl (.int k i)⟩
   | bool =>
    rw[hds]at hok hc
    simp only[beq_iff_eq]at hok
    have hd':=uw hc
    subst hd'
    obtain⟨b,rfl,_⟩:=DataW.trod_bool hd h
    exact⟨[.bool b],⟨by rw[hok];rfl,b,rfl⟩,.one rfl (.bool b)⟩
   | str =>
    rw[hds]at hok hc
    simp only[beq_iff_eq]at hok
    have hd':=p5 hc
    subst hd'
    obtain⟨s,rfl,rfl,hs⟩:=DataW.trod_string hd h
    have hs':s.size<=140737488351232:=by
     have:=hw s.data.toList.length (by simp[DataW.weights])
     simpa using this
    exact⟨[.str s],⟨by rw[hok];rfl,s,rfl,hs'⟩,.one rfl (.str s)⟩
   | map _ _=>rw[hds]at hok;cases hok
   | other=>rw[hds]at hok;cases hok
   | struct fs =>
    rw[hds]at hok hc
    simp only[ade,acM]at hok
    obtain⟨F,rfl,hF⟩:=gS hc
    obtain⟨ys,m,_,rfl,hlen,hyl,hf⟩:=DataW.trod_struct hd h
    have hwy:∀(i:Nat) (f:Field) y,F[i]? = some f->ys[i]? = some y->Reach P f.type y.1:=by
     intro i f y hfi hyi k hk
     refine hw k ?_
     simp only[DataW.weights,hd]
     exact DataW.weights_mem_each (j:=i) (t:=f.type) (d:=y.1) (by rw[acy,adt,hfi];rfl) (by simp[hyi]) k hk
    rw[(hT t τ hτ).cells]at hlen
    have hone:∀p:Nat×Nat,∃zs,p∈fs->∃φ,T p.1=some φ∧DJ T n p.1 zs∧lM w M zs ((cs.drop p.2).take φ.size):=by
     intro p
     by_cases hp:p∈fs
     ·have hokp:=hok.2 p hp
      rw[<- hF]at hp
      obtain⟨f,hfm,rfl⟩:=acA.1 hp
      obtain⟨i,hi⟩:=List.mem_iff_getElem?.1 hfm
      have h1:=hf i f (by simpa using hi)
      simp only at hokp ⊢
      cases hφ:T f.type with
      | none=>cases n with
       | zero=>cases hokp
       | succ n=>simp only[Tr,hφ]at hokp;cases hokp
      | some φ =>
       rw[(hT _ φ hφ).cells]at h1
       have hi':i<ys.length:=by
        have:=(ac4.1 hi).1
        simp only[Array.length_toList]at this
        omega
       rw[acO hi']at h1
       obtain⟨zs,hz1,hz2⟩:=ih _ _ _ _ hokp h1 (hwy i f _ (by simpa using hi) (acO hi'))
       exact⟨zs,fun _=>⟨φ,rfl,hz1,hz2⟩⟩
     ·exact⟨[],fun h=>(hp h).elim⟩
    obtain⟨f,hf2⟩:=Classical.axiomOfChoice hone
    obtain⟨xs,hx,hparts⟩:=Rk fs 0 τ.size f hok.1 hlen (fun p hp=>by obtain⟨φ,a,_,b⟩:=hf2 p hp;exact⟨φ,a,b⟩) (acC _)
    rw[adX]at hx
    refine⟨xs,⟨by rw[hx.1,hlen],fun p hp =>?_⟩,hx⟩
    obtain⟨φ,h1,_,h3⟩:=hparts p hp
    obtain⟨ψ,g1,g2,_⟩:=hf2 p hp
    rw[h1]at g1
    cases g1
    rw[Nat.sub_zero]at h3
    exact⟨φ,h1,by rw[h3];exact g2⟩
   | arr m e =>
    rw[hds]at hok hc
    simp only[ade]at hok
    have hd':=w3 hc
    subst hd'
    obtain⟨ys,k,_,rfl,hlen,hyl,hf⟩:=DataW.trod_array hd h
    have hwy:∀(i:Nat) y,ys[i]? = some y->Reach P e y.1:=by
     intro i y hyi k hk
     refine hw k ?_
     simp only[DataW.weights,hd]
     exact yI _ i y.1 (by simp[hyi]) k hk
    rw[(hT t τ hτ).cells]at hlen
    obtain⟨hok1,hok2⟩:=hok
    split at hok2
    ·rename_i φ hφ
     simp only[beq_iff_eq]at hok2
     have hone:∀i:Nat,∃zs,i<m->DJ T n e zs∧lM w M zs ((cs.drop (i*φ.size)).take φ.size):=by
      intro i
      by_cases hi:i<m
      ·have h1:=hf i hi
       rw[(hT _ φ hφ).cells,acO (by omega)]at h1
       obtain⟨zs,hz1,hz2⟩:=ih _ _ _ _ hok1 h1 (hwy i _ (acO (by omega)))
       exact⟨zs,fun _=>⟨hz1,hz2⟩⟩
      ·exact⟨[],fun h=>(hi h).elim⟩
     obtain⟨f,hf2⟩:=Classical.axiomOfChoice hone
     have hls:∀l∈(List.range m).map f,l.length=φ.size:=by
      intro l hl
      obtain⟨i,hi,rfl⟩:=acA.1 hl
      have hi:=aee.1 hi
      rw[(hf2 i hi).2.1,acU,acV,hlen,hok2]
      have:(i+1)*φ.size<=m*φ.size:=adp _ hi
      rw[adz]at this
      omega
     have hget:∀(i:Nat) l,((List.range m).map f)[i]? = some l->i<m∧l=f i:=by
      intro i l hl
      rw[acy,acz]at hl
      obtain⟨j,hj,rfl⟩:=hl
      obtain⟨hj1,hj2⟩:=ac4.1 hj
      simp only[ac6]at hj1
      simp only[ac7]at hj2
      exact⟨hj1,by rw[hj2]⟩
     have hall:lM w M ((List.range m).map f).flatten ((cs.drop 0).take (((List.range m).map f).length*φ.size)):=by
      refine lM.flat _ 0 (fun i l hl =>?_) hls
      obtain⟨hi,rfl⟩:=hget i l hl
      rw[adq]
      exact (hf2 i hi).2
     rw[ac5,ac6,adX,adW (by omega)]at hall
     refine⟨_,⟨by rw[hall.1,hlen],φ,hφ,fun i hi =>?_⟩,hall⟩
     have hi':((List.range m).map f)[i]? = some (f i):=by simp[hi]
     rw[B4 φ.size _ hls i _ hi']
     exact (hf2 i hi).1
    ·cases hok2
   | slice e =>
    rw[hds]at hok hc
    simp only[ade,beq_iff_eq]at hok
    have hd':=eR hc
    subst hd'
    obtain⟨⟨hone,hoke⟩,hpos⟩:=hok
    split at hpos
    ·rename_i φ hφ
     simp only[decide_eq_true_eq]at hpos
     rcases open_slice hd h with⟨rfl,_⟩|⟨a,len,cap,m,k,D',Pl,rfl,hb,hl,hm,hmm,rfl,hi⟩
     ·refine⟨[.sl false false 0 []],⟨by rw[hone];rfl,0,[],φ,rfl,by omega,hφ,by simp,fun i hi=>by omega⟩,.one rfl ?_⟩
      exact .sl none 0 false false 0 [] (fun _=>undef) (acB _) (acC _) (fun h=>by cases h) (fun _=>⟨rfl,rfl⟩) (fun h=>by cases h) (fun h=>(h rfl).elim) (fun j x hj=>by simp at hj) (fun x hx=>by simp at hx)
     ·have hlm:len<=m:=by rw[hmm];split<;>omega
      have hwl:len*φ.bytes<=140737488351232:=by
       have h1:=hw ((((List.range len).map D').length+((List.range (m-len)).map fun j=>D' (len+j)).length)*P.bytesOf e) (by simp[DataW.weights,hd])
       rw[(hT _ φ hφ).bytesOf]at h1
       simp only[ac5,ac6]at h1
       exact acD (adp _ (by omega)) h1
      have hwy:∀i,i<len->Reach P e (D' i):=by
       intro i hi' k hk
       refine hw k ?_
       simp only[DataW.weights,hd,acI,adL]
       exact .inr (.inl (yI _ i (D' i) (by simp[hi']) k hk))
      have hone':∀i:Nat,∃zs,i<len->DJ T n e zs∧zs.length=φ.size∧∀(j:Nat) z,zs[j]? = some z->aT z=true∧∃v,w.cell? (a.add (i*φ.size+j))=some v∧RP w M z v:=by
       intro i
       by_cases hil:i<len
       ·obtain⟨cs',hc1,hc2⟩:=hi i (by omega)
        rw[(hT _ φ hφ).cells]at hc1
        obtain⟨_,g1,g2⟩:=World.cells?_some hc1
        obtain⟨zs,hz1,hz2⟩:=ih _ _ _ _ hoke hc2 (hwy i hil)
        refine⟨zs,fun _=>⟨hz1,by rw[hz2.1,g1],fun j z hj =>?_⟩⟩
        obtain⟨p1,v,p2,p3⟩:=hz2.2 j z hj
        refine⟨p1,v,?_,p3⟩
        have hj':j<φ.size:=by rw[<- g1];exact (ac4.1 p2).1
        rw[<- Go.Deep.add_add,g2 j hj',p2]
       ·exact⟨[],fun h=>(hil h).elim⟩
      obtain⟨f,hf2⟩:=Classical.axiomOfChoice hone'
      have hls:∀l∈(List.range len).map f,l.length=φ.size:=by
       intro l hl
       obtain⟨i,hi,rfl⟩:=acA.1 hl
       exact (hf2 i (aee.1 hi)).2.1
      have hfl:((List.range len).map f).flatten.length=len*φ.size:=by rw[Ks φ.size _ hls];simp
      have hseg:∀i,i<len->(((List.range len).map f).flatten.drop (i*φ.size)).take φ.size=f i:=fun i hi=>B4 φ.size _ hls i (f i) (by simp[hi])
      have hat:∀(p:Nat) z,((List.range len).map f).flatten[p]? = some z->aT z=true∧∃v,w.cell? (a.add p)=some v∧RP w M z v:=by
       intro p z hp
       have hpl:=(ac4.1 hp).1
       rw[hfl]at hpl
       have hq:p / φ.size<len:=Nat.div_lt_of_lt_mul (by rwa [adA])
       have hr:p % φ.size<φ.size:=adw _ hpos
       have he:p / φ.size*φ.size+p % φ.size=p:=Nat.div_add_mod' p φ.size
       have hz:(f (p / φ.size))[p % φ.size]? = some z:=by
        rw[<- hseg _ hq,acR,if_pos hr,acS,he]
        exact hp
       have:=(hf2 _ hq).2.2 _ z hz
       rw[he]at this
       exact this
      refine⟨[.sl false false len ((List.range len).map f).flatten],⟨by rw[hone];rfl,len,_,φ,rfl,hwl,hφ,hfl,fun i hi=>by rw[hseg i hi];exact (hf2 i hi).1⟩,.one rfl ?_⟩
      refine .sl (some a) cap false false len _ (fun j=>(w.cell? (a.add j)).getD undef) hl hm (fun h=>by cases h) (fun h=>by cases h) (fun h=>by cases h) (fun hne =>?_) (fun j z hj =>?_) (fun z hz =>?_)
      ·have h0:0<((List.range len).map f).flatten.length:=aeq.2 hne
       obtain⟨_,v,hv,_⟩:=hat 0 _ (acO h0)
       obtain⟨b,o,sp⟩:=a
       have hsp:sp=none:=by
        unfold World.cell? at hv
        split at hv
        ·split at hv
         ·cases hv
         ·rename_i h;simpa [Addr.add] using h
        ·cases hv
       subst hsp
       have hbs:b<w.heap.size:=by
        unfold World.cell? at hv
        split at hv
        ·rename_i hh;exact (acF.1 hh).1
        ·cases hv
       refine⟨b,o,rfl,hbs,hM b hb hbs,fun j hj =>?_⟩
       obtain⟨_,v,hv,_⟩:=hat j _ (acO hj)
       have ha:Addr.add ⟨b,o,none⟩ j=⟨b,o+j,none⟩:=by
        unfold Addr.add
        split
        ·rename_i h0;rw[h0];rfl
        ·rfl
       have hv':w.cell? ⟨b,o+j,none⟩=some v:=by rw[<- ha];exact hv
       rw[hv']
       simp only[hv,Option.getD_some]
      ·obtain⟨_,v,hv,hr⟩:=hat j z hj
       rw[hv]
       exact hr
      ·obtain⟨j,hj⟩:=List.mem_iff_getElem?.1 hz
       exact (hat j z hj).1
    ·cases hpos
def sM (T:Nat->Option Ty) (n t:Nat) (d:D):Prop :=
 match T t with
 | some τ=>if τ.ds.oB then ∃xs,d=.agg xs∧DJ T n t xs else DJ T n t [d]
 | none=>False
theorem lM.agg {w:World} {M:Nat->Prop} {xs:List D} {cs:Array Value} (h:lM w M xs cs.toList):RP w M (.agg xs) (.agg cs):=by
 have:=RP.agg (w:=w) (M:=M) xs cs.toList h.1.symm (fun j x hj=>by
  obtain⟨_,v,h1,h2⟩:=h.2 j x hj
  simp only[List.getD,h1,Option.getD_some]
  exact h2) (fun x hx=>by
  obtain⟨j,hj⟩:=List.mem_iff_getElem?.1 hx
  exact (h.2 j x hj).1)
 simpa using this
theorem lM.single {w:World} {M:Nat->Prop} {xs:List D} {v:Value} (h:lM w M xs [v]):∃x,xs=[x]∧RP w M x v:=by
 match xs,h with
 | [],h=>have:=h.1;simp at this
 | [x],h=>obtain⟨_,u,h1,h2⟩:=h.2 0 x rfl;simp only[List.getElem?_cons_zero,acK]at h1;subst h1;exact⟨x,rfl,h2⟩
 | x::y::xs,h=>have:=h.1;simp at this
theorem Xe (hT:jf P T) {M:Nat->Prop} (hM:∀b,base<=b->b<w.heap.size->¬M b) {n t b0:Nat} {v:Value} {d:DataW H} {ps:List MemPlace} (hok:Tr T n t=true) (hv:Value.okWide P w .any b0 t v) (h:DataW.Trod enc P w base spare held t v d ps) (hw:Reach P t d) :
  ∃x,sM T n t x∧RP w M x v:=by
 obtain⟨fuel,h⟩:=h
 obtain⟨xs,h1,h2⟩:=Y6 hT hM n t fuel _ _ hok h hw
 unfold sM
 cases n with
 | zero=>cases hok
 | succ n =>
 cases hτ:T t with
 | none=>simp only[Tr,hτ]at hok;cases hok
 | some τ =>
  simp only
  obtain⟨d',hd,hc⟩:=under hT hτ
  cases hds:τ.ds with
  | int k =>
   rw[hds]at hc
   have hd':=w4 hc
   subst hd'
   obtain⟨i,rfl⟩:=okWide_int hd hv
   obtain⟨x,rfl,hx⟩:=lM.single (v := .int k i) h2
   exact⟨x,by simpa [Ds.oB] using h1,hx⟩
  | bool =>
   rw[hds]at hc
   have hd':=uw hc
   subst hd'
   obtain⟨i,rfl⟩:=okWide_bool hd hv
   obtain⟨x,rfl,hx⟩:=lM.single (v := .bool i) h2
   exact⟨x,by simpa [Ds.oB] using h1,hx⟩
  | str =>
   rw[hds]at hc
   have hd':=p5 hc
   subst hd'
   obtain⟨i,rfl⟩:=okWide_string hd hv
   obtain⟨x,rfl,hx⟩:=lM.single (v := .string i) h2
   exact⟨x,by simpa [Ds.oB] using h1,hx⟩
  | slice e =>
   rw[hds]at hc
   have hd':=eR hc
   subst hd'
   obtain⟨a,len,cap,rfl⟩:=okWide_slice hd hv
   obtain⟨x,rfl,hx⟩:=lM.single (v := .slice a len cap) h2
   exact⟨x,by simpa [Ds.oB] using h1,hx⟩
  | struct fs =>
   rw[hds]at hc
   obtain⟨F,rfl,_⟩:=gS hc
   obtain⟨cs,rfl,_⟩:=okWide_struct hd hv
   exact⟨.agg xs,by simpa [Ds.oB] using h1,lM.agg h2⟩
  | arr m e =>
   rw[hds]at hc
   have hd':=w3 hc
   subst hd'
   have:∃cs,v=.agg cs:=by
    unfold Value.okWide at hv
    rw[hd]at hv
    obtain⟨cs,h,_⟩:=hv
    exact⟨cs,h⟩
   obtain⟨cs,rfl⟩:=this
   exact⟨.agg xs,by simpa [Ds.oB] using h1,lM.agg h2⟩
  | map _ _=>simp only[Tr,hτ,hds]at hok;cases hok
  | other=>simp only[Tr,hτ,hds]at hok;cases hok
theorem EC (hT:jf P T) {M:Nat->Prop} (hM:∀b,base<=b->b<w.heap.size->¬M b) {n b0:Nat} : ∀(ts:List TypeId) (vs:List Value) (ds:List (DataW H)) (ps:List MemPlace),DataW.TrodAll enc P w base spare held ts vs ds ps ->
  (∀(j:Nat) t v,ts[j]? = some t->vs[j]? = some v->Value.okWide P w .any b0 t v)->(∀t∈ts,Tr T n t=true)->(∀k∈DataW.weightsEach P ts ds,k<=140737488351232) ->
  ∃ar:List D,ar.length=vs.length∧(∀(j:Nat) x,ar[j]? = some x->∃v,vs[j]? = some v∧RP w M x v)∧ar.length=ts.length∧∀(j:Nat) t,ts[j]? = some t->∃x,ar[j]? = some x∧sM T n t x
 | [],[],[],ps,_,_,_,_=>⟨[],rfl,fun j x hj=>by simp at hj,rfl,fun j t hj=>by simp at hj⟩
 | t::ts,v::vs,d::ds,ps,h,hv,hok,hw=>by
  obtain⟨p,q,h1,h2,_⟩:=h
  obtain⟨x,hx1,hx2⟩:=Xe hT hM (hok t (by simp)) (hv 0 t v rfl rfl) h1 (fun k hk=>hw k (by simp only[DataW.weightsEach,adL];exact .inl hk))
  obtain⟨ar,g1,g2,g3,g4⟩:=EC hT hM ts vs ds q h2 (fun j t' v' a b=>hv (j+1) t' v' (by simpa using a) (by simpa using b)) (fun t' ht=>hok t' (ad4 _ ht)) (fun k hk=>hw k (by simp only[DataW.weightsEach,adL];exact .inr hk))
  refine⟨x::ar,by simp[g1],fun j y hj =>?_,by simp[g3],fun j t' hj =>?_⟩
  ·cases j with
   | zero=>simp only[List.getElem?_cons_zero,acK]at hj;subst hj;exact⟨v,rfl,hx2⟩
   | succ j=>simpa using g2 j y (by simpa using hj)
  ·cases j with
   | zero=>simp only[List.getElem?_cons_zero,acK]at hj;subst hj;exact⟨x,rfl,hx1⟩
   | succ j=>simpa using g4 j t' (by simpa using hj)
 | [],[],_::_,_,h,_,_,_=>h.elim
 | [],_::_,_,_,h,_,_,_=>h.elim
 | _::_,[],_,_,h,_,_,_=>h.elim
 | _::_,_::_,[],_,h,_,_,_=>h.elim
end
end Go.Proofs.Ytchndpjlijbplaa.Am
namespace Go.Proofs.Ytchndpjlijbplaa.Am
open Go.RowKit Go.Deep Go.ChangeShapes Go.WideShapes Go.ChangeAt
set_option linter.unusedSimpArgs false
set_option linter.unusedVariables false
section
variable {H:Type} {enc:TypeId×Value->H} {P:Program}
theorem Ec {f:Func} {s:ChangeSpec} {apart fresh handsOn again:Bool} {W W':World} {args:Array Value} {v:Value} {ds gs:List (DataW H)} {before pa pv:List MemPlace}
  (hW:DataW.Whole enc P f.params.toList s.vars apart W args.toList ds gs before)
  (hres:∀(b:Nat) (sp:Nat->Bool) (hd:Bool),DataW.TrodAll enc P W' b sp hd f.resultTypes.toList (v.resultList f.resultTypes.size) (s.fn H (ds++gs)).results [])
  (hargs:∀sp:Nat->Bool,(∀p∈before,sp p.block=true)->DataW.TrodAll enc P W' 0 sp true f.params.toList args.toList (s.fn H (ds++gs)).args pa)
  (hvars:∀sp:Nat->Bool,(∀p∈before,sp p.block=true)->DataW.TrodVars enc P W' sp s.vars (s.fn H (ds++gs)).vars pv)
  (hps:before=pa++pv) (hb:Below W.heap.size W W')
  (hok:∀(j:Nat) (t:TypeId) (r:Value),f.resultTypes[j]? = some t->(v.resultList f.resultTypes.size)[j]? = some r->Value.okWide P W' .any 0 t r) :
  s.post enc P f apart fresh handsOn again W args v W':=by
 have hlt:∀p∈before,p.block<W.heap.size:=fun p hp=>hW.lt p hp
 have hold:∀p∈before,(fun b=>decide (b<W.heap.size)) p.block=true:=fun p hp=>by simpa using hlt p hp
 refine⟨ds,gs,before,[],pa,pv,hW,hres _ _ _,hargs _ hold,hvars _ hold,World.keptBut_mono (fun p hp=>⟨hp,?_⟩) (hb.frame (·∈before)),fun _ =>?_⟩
 ·rw[hps,adL]at hp
  exact Or.inr hp
 ·obtain⟨_,_,_,_,_,hz,hn⟩:=hW
  refine⟨hok,_,_,([]++pa)++pv,⟨[]++pa,pv,trodAll_append (hargs _ (fun _ _=>rfl)) (hres _ _ _),hvars _ (fun _ _=>rfl),rfl,?_,?_⟩,?_⟩
  ·intro b off hp
   have hin:MemPlace.cell b off∈before:=by rw[hps];simpa using hp
   rw[hb.frozen (hlt _ hin)]
   exact hz b off hin
  ·intro ha
   have:=hn ha
   rw[hps]at this
   simpa using this
  ·intro p hp _
   rw[hps]
   simpa using hp
theorem vZ (hl:laidOutB P=true) {W W':World} {sp':Nat->Bool} : ∀ {ts:List TypeId} {vs:List Value} {ds:List (DataW H)} {ps:List MemPlace},(∀t∈ts,P.readableRec t=true∧t<P.types.size)->DataW.TrodAll enc P W 0 (fun _=>true) true ts vs ds ps ->
  (∀p∈ps,W.sameAt W' p)->(∀p∈ps,sp' p.block=true)->DataW.TrodAll enc P W' 0 sp' true ts vs ds ps
 | [],[],[],_,_,h,_,_=>h
 | t::ts,v::vs,d::ds,_,hr,⟨p,q,h1,h2,e⟩,hs,hp=>by
  subst e
  have ht:=hr t (by simp)
  exact⟨p,q,WideElems.Trod_stays hl ht.1 ht.2 h1 (fun x hx=>hs x (acP _ hx)) (fun x hx=>hp x (acP _ hx)),
   vZ hl (fun t ht=>hr t (ad4 _ ht)) h2 (fun x hx=>hs x (acQ _ hx)) (fun x hx=>hp x (acQ _ hx)),rfl⟩
end
theorem VY {H:Type} {enc:TypeId×Value->H} {C:Checked} {T:Nat->Option Ty} {f:FuncId} {fn:Func} {s:ChangeSpec} {apart fresh handsOn again:Bool} {tb n:Nat} (hT:jf C.prog T)
  (hl:laidOutB C.prog=true) (hr:(fn.params.toList.all fun t=>C.prog.readableRec t&&decide (t<C.prog.types.size)&&Tr T n t)=true)
  (hres:fn.resultTypes = #[tb]) (htb:C.prog.underlying tb=some .bool) (hv:s.vars=[])
  (hs:∀ds:List (DataW H),ds.length=fn.params.toList.length->(s.fn H ds).results=[.lit (.bool true)]∧(s.fn H ds).args=ds∧(s.fn H ds).vars=[])
  (law:∀ar:List D,ar.length=fn.params.toList.length->(∀(j:Nat) t,fn.params.toList[j]? = some t->∃x,ar[j]? = some x∧sM T n t x)->NI C.prog f ar (.bool true))
  {W:World} {base:Nat} {args:Array Value} {ds gs:List (DataW H)} {before:List MemPlace}
  (hval:∀(j:Nat) t v,fn.params[j]? = some t->args[j]? = some v->Value.okWide C.prog W .any base t v) (hW:DataW.Whole enc C.prog fn.params.toList s.vars apart W args.toList ds gs before)
  (hsz:(DataW.weightsEach C.prog (fn.params.toList++s.plain.varTypes C.prog) (ds++gs)).all (·<=reachBytes)=true) (hTab:Sr W (fun _=>False)) :
  Calls C.prog f args W fun e W'=>∃v,e=.returned v∧s.post enc C.prog fn apart fresh handsOn again W args v W':=by
 have hW':=hW
 obtain⟨p,q,hA,hV,rfl,hfz,hnd⟩:=hW
 rw[hv]at hV
 obtain⟨rfl,rfl⟩:=trodVars_none hV
 simp only[acM,ade,decide_eq_true_eq]at hr
 obtain⟨ar,h1,h2,h3,h4⟩:=EC (P:=C.prog) hT (M:=fun _=>False) (fun b _ _ h=>h) (n:=n) (b0:=base) fn.params.toList args.toList ds p hA
  (fun j t v a b=>hval j t v (by simpa using a) (by simpa using b)) (fun t ht=>(hr t ht).2) (fun k hk=>by
   rw[acM]at hsz
   have hv0:s.plain.varTypes C.prog=[]:=by unfold ChangeSpec.plain;simp only[hv];rfl
   rw[hv0,aer,aer]at hsz
   have h:=hsz k hk
   rw[decide_eq_true_eq]at h
   exact h)
 refine (law ar h3 h4 W (fun _=>False) args (fun b h=>h.elim) ⟨by simpa using h1.symm,fun j x hj =>?_,hTab⟩).mono fun e W' hG =>?_
 ·obtain⟨v,g1,g2⟩:=h2 j x hj
  have g1':args[j]? = some v:=by simpa using g1
  rw[acG,g1']
  exact g2
 ·obtain⟨v,rfl,hb,hv1⟩:=hG
  have hv2:RP W' (fun _=>False) (.bool true) v:=hv1
  cases hv2
  have hlen:ds.length=fn.params.toList.length:=by
   have:∀ {ts:List TypeId} {vs:List Value} {ds:List (DataW H)} {ps:List MemPlace},DataW.TrodAll enc C.prog W 0 (fun _=>true) true ts vs ds ps->ds.length=ts.length:=by
    intro ts
    induction ts with
    | nil=>intro vs ds ps h;cases vs<;>cases ds<;>first|rfl|exact h.elim
    | cons t ts ih =>
     intro vs ds ps h
     cases vs with
     | nil=>exact h.elim
     | cons v vs=>cases ds with
      | nil=>exact h.elim
      | cons d ds=>obtain⟨_,_,_,h2,_⟩:=h;simp[ih h2]
   exact this hA
  obtain⟨e1,e2,e3⟩:=hs ds hlen
  refine⟨_,rfl,Ec (pa:=p) (pv:=[]) hW' ?_ ?_ ?_ (by simp) hb ?_⟩
  ·intro b sp hd
   rw[aer,e1,hres]
   exact trodAll_mk1 ⟨1,by simp[DataW.trod,htb,Value.cells]⟩
  ·intro sp hsp
   rw[aer,e2]
   refine vZ hl (fun t ht=>(hr t ht).1) hA (fun x hx=>hb.same (hW'.lt x (by simpa using hx))) (fun x hx=>hsp x (by simpa using hx))
  ·intro sp _
   rw[aer,e3,hv]
   rfl
  ·exact ok_one hres rfl (by simp[Value.okWide,htb,Cell.okWide,Cell.ok])
theorem Pq {H:Type} {enc:TypeId×Value->H} {C:Checked} {os:Os} {T:Nat->Option Ty} {f:FuncId} {fn:Func} {s:ChangeSpec} {conds:List PathCond} {apart fresh handsOn again:Bool} {tb n:Nat}
  (hT:jf C.prog T) (own:ownKnob C.prog.godebug=none) (started:os.Started) (noInit:C.prog.inits.idxOf? f=none) (hfn:C.prog.funcs[f]? = some fn)
  (witness:∃(w:World) (tape:Tape) (i:Input),w.os=os∧(w.forCall tape i).Shaped C.prog∧i.vars=[]∧Input.okWide C.prog (w.forCall tape i) .any w.heap.size f i ∧
   s.pre6 enc C.prog fn conds apart (w.forCall tape i).memory i.args∧({} : Assume).holds C.prog (lone (Frame.enter C.prog f i.args .normal) [] (w.forCall tape i)))
  (hl:laidOutB C.prog=true) (hr:(fn.params.toList.all fun t=>C.prog.readableRec t&&decide (t<C.prog.types.size)&&Tr T n t)=true)
  (hres:fn.resultTypes = #[tb]) (htb:C.prog.underlying tb=some .bool) (hv:s.vars=[])
  (hs:∀ds:List (DataW H),ds.length=fn.params.toList.length->(s.fn H ds).results=[.lit (.bool true)]∧(s.fn H ds).args=ds∧(s.fn H ds).vars=[])
  (law:∀ar:List D,ar.length=fn.params.toList.length->(∀(j:Nat) t,fn.params.toList[j]? = some t->∃x,ar[j]? = some x∧sM T n t x)->NI C.prog f ar (.bool true)) (hno:Wj=none:=by rfl) :
  ReturnsInHanded {} C os f .any (s.pre6 enc C.prog fn conds apart) (s.post enc C.prog fn apart fresh handsOn again):=by
 refine returnsInHanded_of_change_sized own started noInit hfn witness ?_
 intro W base args ds gs before hval hW _ hsz _
 exact VY hT hl hr hres htb hv hs law hval hW hsz (fun b hb=>by rw[hno]at hb;cases hb)
end Go.Proofs.Ytchndpjlijbplaa.Am
namespace Go.Proofs.Ytchndpjlijbplaa.Am
open Go.RowKit
set_option linter.unusedSimpArgs false
set_option linter.unusedVariables false
theorem aaa {T:Nat->Option Ty} {n t:Nat} {ar:List D} (h:ar.length=[t].length) (hs:∀(j:Nat) u,[t][j]? = some u->∃x,ar[j]? = some x∧sM T n u x):∃a,ar=[a]∧sM T n t a:=by
 match ar,h with
 | [a],_=>obtain⟨x,h1,h2⟩:=hs 0 t rfl;cases h1;exact⟨a,rfl,h2⟩
theorem aab {T:Nat->Option Ty} {n t:Nat} {ts:List Nat} {ar:List D} (h:ar.length=(t::ts).length) (hs:∀(j:Nat) u,(t::ts)[j]? = some u->∃x,ar[j]? = some x∧sM T n u x) :
  ∃a acw,ar=a::acw∧sM T n t a∧acw.length=ts.length∧∀(j:Nat) u,ts[j]? = some u->∃x,acw[j]? = some x∧sM T n u x:=by
 match ar,h with
 | a::acw,h =>
  obtain⟨x,h1,h2⟩:=hs 0 t rfl
  cases h1
  exact⟨a,acw,rfl,h2,by simpa using h,fun j u hu=>by simpa using hs (j+1) u (by simpa using hu)⟩
section
variable {T:Nat->Option Ty} {n t:Nat} {τ:Ty} {d:D}
theorem N1 {fs:List (Nat×Nat)} (h:sM T n t d) (hτ:T t=some τ) (hd:τ.ds=.struct fs):∃xs,d=.agg xs∧DJ T n t xs:=by
 simp only[sM,hτ,hd,Ds.oB,if_true]at h
 exact h
theorem Su {e:Nat} (h:sM T n t d) (hτ:T t=some τ) (hd:τ.ds=.slice e):DJ T n t [d]:=by
 simp only[sM,hτ,hd,Ds.oB,adb,if_false]at h
 exact h
theorem X0 {k:IntKind} {xs:List D} (h:DJ T (n+1) t xs) (hτ:T t=some τ) (hd:τ.ds=.int k):∃i,xs=[.int k i]∧(Lit.int k i).wf=true:=by
 simp only[DJ,hτ,hd]at h
 exact h.2
theorem TG {e:Nat} {φ:Ty} {xs:List D} (h:DJ T (n+1) t xs) (hτ:T t=some τ) (hd:τ.ds=.slice e) (hφ:T e=some φ) :
  ∃len ys,xs=[.sl false false len ys]∧len*φ.bytes<=140737488351232∧ys.length=len*φ.size∧∀i,i<len->DJ T n e ((ys.drop (i*φ.size)).take φ.size):=by
 simp only[DJ,hτ,hd]at h
 obtain⟨_,len,ys,ψ,h1,h3,h4,h5,h6⟩:=h
 rw[hφ]at h4
 cases h4
 exact⟨len,ys,h1,h3,h5,h6⟩
theorem PT {fs:List (Nat×Nat)} {xs:List D} (h:DJ T (n+1) t xs) (hτ:T t=some τ) (hd:τ.ds=.struct fs):xs.length=τ.size∧∀f∈fs,∃φ,T f.1=some φ∧DJ T n f.1 ((xs.drop f.2).take φ.size):=by
 simp only[DJ,hτ,hd]at h
 exact h
end
end Go.Proofs.Ytchndpjlijbplaa.Am
namespace Go.Proofs.Ytchndpjlijbplaa.Am
open Go.RowKit Go.Proofs.Ytchndpjlijbplaa.P
set_option linter.unusedSimpArgs false
set_option linter.unusedVariables false
def NF {α:Type} (T:Nat->Option Ty) (n t:Nat) (E:hY α) (ok:α->Prop):Prop:=(∃φ,T t=some φ∧φ.size=E.size)∧∀xs,DJ T n t xs->∃x,xs=E.cells x∧ok x
section
variable {T:Nat->Option Ty} {n t:Nat} {τ:Ty}
theorem opI {k:IntKind} (hτ:T t=some τ) (hd:τ.ds=.int k) (hs:τ.size=1):NF T (n+1) t (eI k) (fun i=>(Lit.int k i).wf=true):=⟨⟨τ,hτ,hs⟩,fun _ h=>X0 h hτ hd⟩
theorem YQ {α:Type} (E:hY α) (ok:α->Prop):∀(len:Nat) (ys:List D),ys.length=len*E.size->(∀i,i<len->∃x,(ys.drop (i*E.size)).take E.size=E.cells x∧ok x)->∃l:List α,l.length=len∧ys=ae E l∧∀x∈l,ok x
 | 0,ys,hl,_=>⟨[],rfl,by simpa [ae] using hl,fun x hx=>by simp at hx⟩
 | len+1,ys,hl,h=>by
  obtain⟨x,hx,hok⟩:=h 0 (by omega)
  obtain⟨l,h1,h2,h3⟩:=YQ E ok len (ys.drop E.size) (by rw[acV,hl,adz];omega) (fun i hi=>by
   obtain⟨y,hy,hy2⟩:=h (i+1) (by omega)
   refine⟨y,?_,hy2⟩
   rw[aen]
   rw[adz,Nat.add_comm]at hy
   exact hy)
  rw[aep,adX]at hx
  refine⟨x::l,by simp[h1],?_,fun y hy =>?_⟩
  ·rw[aK,<- h2,<- hx,aeo]
  ·rcases acI.1 hy with rfl|hy
   ·exact hok
   ·exact h3 y hy
theorem ZD {α:Type} {E:hY α} {ok:α->Prop} {e:Nat} (hτ:T t=some τ) (hd:τ.ds=.slice e) (hs:τ.size=1) {B:Nat} (hB:(T e).map (·.bytes)=some B) (he:NF T n e E ok):NF T (n+1) t (NG E) (fun l=>l.length*B<=140737488351232∧∀x∈l,ok x):=by
 obtain⟨⟨φ,hφ,hz⟩,hx⟩:=he
 have hb:φ.bytes=B:=by rw[hφ]at hB;simpa using hB
 refine⟨⟨τ,hτ,hs⟩,fun xs h =>?_⟩
 obtain⟨len,ys,h1,h2,h3,h4⟩:=TG h hτ hd hφ
 rw[hz]at h3 h4
 rw[hb]at h2
 obtain⟨l,k1,k2,k3⟩:=YQ E ok len ys h3 fun i hi=>hx _ (h4 i hi)
 subst k1 k2
 exact⟨l,h1,h2,k3⟩
def OpF {α:Type} (T:Nat->Option Ty) (n:Nat) (fs:List (Nat×Nat)) (o:Nat) (E:hY α) (ok:α->Prop):Prop :=
 ∀xs:List D,xs.length=o+E.size->(∀f∈fs,∃φ,T f.1=some φ∧DJ T n f.1 ((xs.drop f.2).take φ.size))->∃x,xs.drop o=E.cells x∧ok x
theorem XL {α:Type} {E:hY α} {ok:α->Prop} {ft o:Nat} (h:NF T n ft E ok):OpF T n [(ft,o)] o E ok:=by
 obtain⟨⟨φ,hφ,hz⟩,hx⟩:=h
 intro xs hl hf
 obtain⟨ψ,h1,h2⟩:=hf (ft,o) (by simp)
 cases hφ.symm.trans h1
 rw[adW (by rw[acV];omega)]at h2
 exact hx _ h2
theorem VQ {α β:Type} {E:hY α} {ok:α->Prop} {E':hY β} {ok':β->Prop} {ft o o':Nat} {fs:List (Nat×Nat)} (h:NF T n ft E ok) (ho:o'=o+E.size) (h':OpF T n fs o' E' ok'):OpF T n ((ft,o)::fs) o (xd E E') (fun x=>ok x.1∧ok' x.2):=by
 subst ho
 obtain⟨⟨φ,hφ,hz⟩,hx⟩:=h
 intro xs hl hf
 obtain⟨ψ,h1,h2⟩:=hf (ft,o) (by simp)
 cases hφ.symm.trans h1
 obtain⟨x,hx1,hx2⟩:=hx _ h2
 obtain⟨y,hy1,hy2⟩:=h' xs (by rw[hl];show o+(E.size+E'.size)=_;omega) fun f hf'=>hf f (ad4 _ hf')
 refine⟨(x,y),?_,hx2,hy2⟩
 show xs.drop o=E.cells x++E'.cells y
 rw[<- hx1,<- hy1,<- hz,<- aen,aeo]
theorem opS {α β:Type} {E:hY β} {ok:β->Prop} {f:α->β} {hf:∀x y,f x=f y->x=y} {g:β->α} {fs:List (Nat×Nat)} (hτ:T t=some τ) (hd:τ.ds=.struct fs) (hs:τ.size=E.size) (hg:∀y,f (g y)=y) (h:OpF T n fs 0 E ok):NF T (n+1) t (Kd E f hf) (fun x=>ok (f x)):=by
 refine⟨⟨τ,hτ,hs⟩,fun xs hx =>?_⟩
 obtain⟨h1,h2⟩:=PT hx hτ hd
 obtain⟨y,h3,h4⟩:=h xs (by rw[h1,hs,adq]) h2
 refine⟨g y,?_,?_⟩
 ·show xs=E.cells (f (g y))
  rw[hg,<- h3,adX]
 ·show ok (f (g y))
  rw[hg];exact h4
def OpA {α:Type} (T:Nat->Option Ty) (n t:Nat) (A:Arg α) (ok:α->Prop):Prop:=∀d,sM T n t d->∃x,d=A.d x∧ok x
theorem abP {α:Type} {E:hY α} {ok:List α->Prop} {e:Nat} (hτ:T t=some τ) (hd:τ.ds=.slice e) (hE:NF T n t (NG E) ok):OpA T n t (mX E) ok:=fun d h=>by
 obtain⟨x,h1,h2⟩:=hE.2 _ (Su h hτ hd)
 simp only[yp,acZ,and_true]at h1
 exact⟨x,h1,h2⟩
theorem oaS {α:Type} {E:hY α} {ok:α->Prop} {fs:List (Nat×Nat)} (hτ:T t=some τ) (hd:τ.ds=.struct fs) (hE:NF T n t E ok):OpA T n t (de E) ok:=fun d h=>by
 obtain⟨xs,rfl,h1⟩:=N1 h hτ hd
 obtain⟨x,h1,h2⟩:=hE.2 _ h1
 exact⟨x,by rw[h1];rfl,h2⟩
def TY {α:Type} (T:Nat->Option Ty) (n:Nat) (ts:List Nat) (A:kO α) (ok:α->Prop):Prop:=∀ar:List D,ar.length=ts.length->(∀(j:Nat) u,ts[j]? = some u->∃x,ar[j]? = some x∧sM T n u x)->∃x,ar=A.ds x∧ok x
theorem abQ {α:Type} {A:Arg α} {ok:α->Prop} (h:OpA T n t A ok):TY T n [t] (fQ A) ok:=fun ar hl hs=>by
 obtain⟨a,rfl,ha⟩:=aaa hl hs
 obtain⟨x,rfl,hx⟩:=h a ha
 exact⟨x,rfl,hx⟩
theorem abR {α β:Type} {A:Arg α} {ok:α->Prop} {B:kO β} {ok':β->Prop} {ts:List Nat} (h:OpA T n t A ok) (h':TY T n ts B ok'):TY T n (t::ts) (jg A B) (fun x=>ok x.1∧ok' x.2):=fun ar hl hs=>by
 obtain⟨a,ar,rfl,ha,hl',hs'⟩:=aab hl hs
 obtain⟨x,rfl,hx⟩:=h a ha
 obtain⟨y,rfl,hy⟩:=h' ar hl' hs'
 exact⟨(x,y),rfl,hx,hy⟩
theorem Zr {P:Program} {f:FuncId} {α:Type} {A:kO α} {F:α->Option Bool} {ok:α->Prop} {ts:List Nat} (ho:TY T n ts A ok) (hG:bW P f (fU A F (fun r =>.clean (.bool r)))) (h:∀x,ok x->F x=some true) (ar:List D) (hl:ar.length=ts.length)
  (hs:∀(j:Nat) u,ts[j]? = some u->∃x,ar[j]? = some x∧sM T n u x):NI P f ar (.bool true):=by
 obtain⟨x,rfl,hx⟩:=ho ar hl hs
 refine hG.calls none _ _ none ?_
 rw[aV,h x hx]
 rfl
end
def BN {α:Type} (e:hY α):hY (List α):=⟨fun l=>[.nx l.length (ae e l)],1,fun _=>rfl,by decide,fun x y h=>by
 simp only[acZ,D.nx.injEq,and_true]at h
 exact tl e _ _ h.2⟩
theorem ux {α:Type} (e:hY α) (l:List α):(BN e).cells l=[.nx l.length (ae e l)]:=afp
theorem th {α:Type} (e:hY α):(BN e).size=1:=afp
section
variable {α:Type} (E:hY α) {l:List α} {i:Int} {x x':α}
theorem Ix (cs:List D) (o:Nat) (d:D) (h:o<cs.length):(putCells cs o [d]).length=cs.length:=by
 simp[putCells];omega
theorem Iy (cs:List D) (o:Nat) (d d':D) (h:o<cs.length):putCells (putCells cs o [d]) o [d']=putCells cs o [d']:=by
 unfold putCells
 have h1:(cs.take o).length=o:=by simp;omega
 have h2:(cs.take o++[d]++cs.drop (o+[d].length)).take o=cs.take o:=by
  rw[adR,adV (by omega),adW (by omega)]
 have h3:(cs.take o++[d]++cs.drop (o+[d].length)).drop (o+[d'].length)=cs.drop (o+[d'].length):=by
  rw[adS (by simp;omega),ael (by simp;omega),aei]
  rfl
 rw[h2,h3]
theorem Il (fo:Nat) (h:P.idx l i=some x) (hfo:fo+1<=E.size):i.toNat*E.size+fo<(ae E l).length:=by
 have:=jn E h
 rw[bG]
 omega
theorem MM (fo:Nat) (d d':D) (h:P.idx l i=some x) (hc:E.cells x'=putCells (E.cells x) fo [d']) (hfo:fo+1<=E.size):putCells (putCells (ae E l) (i.toNat*E.size+fo) [d]) (i.toNat*E.size+fo) [d']=ae E (l.set i.toNat x'):=by
 rw[Iy _ _ _ _ (Il E fo h hfo)]
 exact eN E fo [d'] h hc hfo
theorem RJ (fo:Nat) (d:D) (h:P.idx l i=some x) (hfo:fo+1<=E.size):i.toNat*E.size+fo+1<=(putCells (ae E l) (i.toNat*E.size+fo) [d]).length:=by
 rw[Ix _ _ _ (Il E fo h hfo)]
 exact Il E fo h hfo
end
theorem GW {t s nv n o:Nat} {fz:Bool} {cs xs cs':List D} : yL t s nv fz cs o (some ⟨nv,t,cs',fz,true,false⟩) (some (.nx n xs))=[.nr t s nv (putCells cs o [.nx n cs'])]:=by
 simp[yL,Gt]
theorem GV {t s nv n o:Nat} {fz:Bool} {cs xs:List D} : yL t s nv fz cs o none (some (.nx n xs))=[.nr t s nv (putCells cs o [.und])]:=afp
theorem Rx {α:Type} {E:hY α} {T:Nat->Option Ty} {el B ty' s f:Nat} {φ:Ty} {k:IntKind} {n:Int} {z:α} {m:List α} (hφ:T el=some φ) (hz:ub φ f=E.cells z) (hs:φ.size=E.size) (hd:(φ.zero.map m6).all eY=true) (hl:φ.zero.length=φ.size) (hn:ZB ((φ.zero.map m6).drop f).head? = true) (hB:φ.bytes=B) (h:D7 B n n z=some m)
  : ∀(b c:Nat) (z0:List Value) (q:Bool) (e d:Nat),d<1000000->mL T ⟨.slice el,b,c,z0,q⟩ e d ty' s f (.int k n) (.int k n)=some ⟨.buf d e φ.size 0 m.length,[(d,some ⟨e,el,[.nr ty' s (4*e+2) (ae E m)],false,true,true⟩)]⟩:=by
 intro b c z0 q e d hdp
 obtain⟨h1,h2,h3,h4,h5⟩:=mk_one E h
 have hnat:mN (.int k n)=some n.toNat:=by simp[mN,h1]
 have hpos:=E.pos
 unfold mL
 simp only[hφ,hnat]
 rw[if_pos ⟨acB _,by rw[h2];exact h3,by rw[h2,hB];exact h5,by omega,hd,hl,by rw[cP];exact hdp,hn⟩,hz,h2,h4]
theorem E2 {k:IntKind} {n:Int} : eY (.int k n)=true:=afp
theorem Bu {b:Bool} : eY (.bool b)=true:=afp
theorem E3 {b:ByteArray} : eY (.str b)=true:=afp
theorem JS {a b:Bool} {n:Nat} {xs:List D} : eY (.sl a b n xs)=true:=afp
noncomputable def b6 {α β:Type} (A:kO α) (F:α->Option β) (R:β->Nat×Nat×Nat×Nat×Nat×List D):List D->Option (Nat×Nat×Nat×Nat×Nat×List D):=fun ds=>open Classical in if h:∃a,A.ds a=ds then (F (Classical.choose h)).map R else none
theorem Zx {α β:Type} (A:kO α) (F:α->Option β) (R:β->Nat×Nat×Nat×Nat×Nat×List D) (a:α):b6 A F R (A.ds a)=(F a).map R:=by
 have h:∃b,A.ds b=A.ds a:=⟨a,rfl⟩
 simp only[b6]
 rw[dif_pos h,A.inj _ _ (Classical.choose_spec h)]
theorem VC {α β:Type} {A:kO α} {F:α->Option β} {R:β->Nat×Nat×Nat×Nat×Nat×List D} {ds:List D} {q:Nat×Nat×Nat×Nat×Nat×List D} (h:b6 A F R ds=some q):∃a r,ds=A.ds a∧F a=some r∧q=R r:=by
 unfold b6 at h
 split at h
 ·rename_i he
  rw[acz]at h
  obtain⟨r,h1,h2⟩:=h
  exact⟨_,r,(Classical.choose_spec he).symm,h1,h2.symm⟩
 ·cases h
structure FOk (P:Program) (f:FuncId) (p:List D->Option (Nat×Nat×Nat×Nat×Nat×List D)):Prop where
 callable:dn P f
 calls:∀args ty t s S n cs,p args=some (ty,t,s,S,n,cs)->Hq P f args ty t s S n cs
theorem FOk.of {P:Program} {T:Nat->Option Ty} {Γ:Env} (hT:jf P T) (hΓ:bC P Γ) (hm:P.follows .mixedOrders=true) {α β:Type} {A:kO α} {F:α->Option β} {R:β->Nat×Nat×Nat×Nat×Nat×List D} {f:FuncId} {fn:Func} (hf:P.funcs[f]? = some fn) (hok:(match fn.body with|some c=>codeOk c|none=>true)=true)
  (hc:(fn.name == "runtime.NumGoroutine")=false∧fn.body.isNone=false) (hn:∀a,(A.ds a).length<=fn.ntmps) (h:∀a r,F a=some r->se T Γ FU fn (A.ds a)=some (R r)):FOk P f (b6 A F R) where
 callable:=⟨fn,hf,hc⟩
 calls args ty t s S n cs hg:=by
  obtain⟨a,r,rfl,hr,he⟩:=VC hg
  exact IT hT hΓ hm hf hok (hn a) ((h a r hr).trans (by rw[he]))
theorem Nz {α:Type} {E EN:hY α} (h:∀x,(EN.cells x).map DF=E.cells x):∀l:List α,(ae EN l).map DF=ae E l
 | []=>rfl
 | x::l=>by rw[aK,aK,ad0,h x,Nz h l]
theorem Gp {α:Type} {EN:hY α} {s:Nat} (h:∀x,(EN.cells x).all (vv s)=true):∀l:List α,(ae EN l).all (vv s)=true
 | []=>rfl
 | x::l=>by rw[aK,List.all_append,h x,Gp h l];rfl
theorem bW.ofW {P:Program} {T:Nat->Option Ty} {Γ:Env} (hT:jf P T) (hΓ:bC P Γ) (hm:P.follows .mixedOrders=true) {α γ:Type} {A:kO α} {F:α->Option (List γ)} {E EN:hY γ} {ty t s:Nat} {f:FuncId} {fn:Func} (hf:P.funcs[f]? = some fn) (hok:(match fn.body with|some c=>codeOk c|none=>true)=true)
  (hc:(fn.name == "runtime.NumGoroutine")=false∧fn.body.isNone=false) (hn:∀a,(A.ds a).length<=fn.ntmps) (hs:EN.size=E.size) (hu:∀x,(EN.cells x).map DF=E.cells x) (ho:∀x,(EN.cells x).all (vv s)=true)
  (h:∀a r,F a=some r->se T Γ FU fn (A.ds a)=some (ty,t,s,E.size,r.length,ae EN r)):bW P f (fU A F fun r =>.clean (.sl false false r.length (ae E r))) where
 calls lent acw rk out hg:=by
  obtain⟨rfl,rfl,a,r,rfl,hr,rfl⟩:=xv hg
  refine IV (F:=FU) hT hΓ hm hf hok (hn a) ?_
  unfold PX U5
  rw[h a r hr]
  simp only
  have hl:(ae EN r).length=r.length*E.size:=by rw[bG,hs]
  rw[if_pos ⟨by rw[hl];exact acB _,Gp ho r⟩,Nz hu r,adW (by rw[bG];exact acB _)]
 callable:=⟨fn,hf,hc⟩
noncomputable def D8 {α β γ:Type} (ty t s:Nat) (EN:hY γ) (A:kO α) (F:γ->α->Option (γ×β)) (R:β->D):Nat->Nat->Nat->Nat->List D->List D->Option (D×List D):=fun ty' t' s' o cs args =>
 open Classical in if h:∃p:List D×List D×γ×α,ty'=ty∧t'=t∧s'=s∧cs=p.1++(EN.cells p.2.2.1++p.2.1)∧o=p.1.length∧args=A.ds p.2.2.2 then
  (F (Classical.choose h).2.2.1 (Classical.choose h).2.2.2).map fun r=>(R r.2,(Classical.choose h).1++(EN.cells r.1++(Classical.choose h).2.1)) else none
theorem Ik {α β γ:Type} (ty t s:Nat) (EN:hY γ) (A:kO α) (F:γ->α->Option (γ×β)) (R:β->D) (pre post:List D) (x:γ) (a:α) :
  D8 ty t s EN A F R ty t s pre.length (pre++(EN.cells x++post)) (A.ds a)=(F x a).map fun r=>(R r.2,pre++(EN.cells r.1++post)):=by
 have h:∃p:List D×List D×γ×α,ty=ty∧t=t∧s=s∧pre++(EN.cells x++post)=p.1++(EN.cells p.2.2.1++p.2.1)∧pre.length=p.1.length∧A.ds a=A.ds p.2.2.2:=⟨(pre,post,x,a),rfl,rfl,rfl,rfl,rfl,rfl⟩
 obtain⟨_,_,_,h1,h2,h3⟩:=Classical.choose_spec h
 obtain⟨e1,e2⟩:=aev h1 h2
 obtain⟨e3,e4⟩:=aev e2 (by rw[EN.len,EN.len])
 unfold D8
 rw[dif_pos h,<- e1,<- e4,<- EN.inj _ _ e3,<- A.inj _ _ h3]
theorem To {α β γ:Type} {ty t s:Nat} {EN:hY γ} {A:kO α} {F:γ->α->Option (γ×β)} {R:β->D} {ty' t' s' o:Nat} {cs args:List D} {d:D} {cs':List D} (h:D8 ty t s EN A F R ty' t' s' o cs args=some (d,cs')) :
  ty'=ty∧t'=t∧s'=s∧∃pre post x a r,cs=pre++(EN.cells x++post)∧o=pre.length∧args=A.ds a∧F x a=some r∧d=R r.2∧cs'=pre++(EN.cells r.1++post):=by
 unfold D8 at h
 split at h
 ·rename_i he
  obtain⟨h1,h2,h3,h4,h5,h6⟩:=Classical.choose_spec he
  rw[acz]at h
  obtain⟨r,k1,k2⟩:=h
  simp only[Prod.mk.injEq]at k2
  exact⟨h1,h2,h3,_,_,_,_,r,h4,h5,h6,k1,k2.1.symm,k2.2.symm⟩
 ·cases h
structure W3 (P:Program) (f:FuncId) (p:Nat->Nat->Nat->Nat->List D->List D->Option (D×List D)):Prop where
 callable:dn P f
 calls:∀ty t s o cs args d cs',p ty t s o cs args=some (d,cs')->Hr P f ty t s o cs args d cs'
theorem W3.of {P:Program} {T:Nat->Option Ty} {Γ:Env} (hT:jf P T) (hΓ:bC P Γ) (hm:P.follows .mixedOrders=true) {α β γ:Type} {ty t s:Nat} {EN:hY γ} {A:kO α} {F:γ->α->Option (γ×β)} {R:β->D} {f:FuncId} {fn:Func} (hf:P.funcs[f]? = some fn) (hok:(match fn.body with|some c=>codeOk c|none=>true)=true)
  (hc:(fn.name == "runtime.NumGoroutine")=false∧fn.body.isNone=false) (hn:∀a,(A.ds a).length+1<=fn.ntmps) (h:∀pre post x a x' r,F x a=some (x',r)->sf T Γ FU fn ty t s pre.length (pre++(EN.cells x++post)) (A.ds a)=some (R r,pre++(EN.cells x'++post))):W3 P f (D8 ty t s EN A F R) where
 callable:=⟨fn,hf,hc⟩
 calls ty' t' s' o cs args d cs' hg:=by
  obtain⟨rfl,rfl,rfl,pre,post,x,a,r,rfl,rfl,rfl,hr,rfl,rfl⟩:=To hg
  exact IU hT hΓ hm hf hok (hn a) (h pre post x a r.1 r.2 hr)
theorem MJ {α:Type} {x:Bool×α} {q:α} (h:MI x=some q):x=(false,q):=by
 obtain⟨b,y⟩:=x
 cases b
 ·cases h;rfl
 ·cases h
theorem Ng {α:Type} {x:Bool×α} {q:α} (h:Nf x=some q):x=(true,q):=by
 obtain⟨b,y⟩:=x
 cases b
 ·cases h
 ·cases h;rfl
def aad {α:Type} (E EN:hY α) (hs:EN.size=E.size) (hd:∀x y,E.cells x≠EN.cells y):hY (Bool×α):=⟨fun p=>match p.1 with|true=>E.cells p.2|false=>EN.cells p.2,E.size,fun p=>by
  obtain⟨b,x⟩:=p
  cases b
  ·exact (EN.len x).trans hs
  ·exact E.len x,E.pos,fun p q h=>by
  obtain⟨b,x⟩:=p
  obtain⟨c,y⟩:=q
  cases b<;>cases c
  ·exact congrArg (Prod.mk false) (EN.inj x y h)
  ·exact absurd h.symm (hd _ _)
  ·exact absurd h (hd _ _)
  ·exact congrArg (Prod.mk true) (E.inj x y h)⟩
theorem FH {α:Type} {EN:hY α} {EF:hY (Bool×α)} (hF:∀x,EF.cells (false,x)=EN.cells x):∀l:List α,ae EN l=ae EF (FG l)
 | []=>rfl
 | x::l=>by
  have ih:=FH hF l
  rw[aK,ih,<- hF x]
  rfl
theorem FI {α:Type} {l:List α} : (FG l).length=l.length:=ac5 ..
theorem BY {γ:Type} {E:hY γ} {C:List γ} {i:Int} {x:γ} (h:P.idx C i=some x) (y:γ):ae E (C.set i.toNat y)=ae E (C.take i.toNat)++(E.cells y++ae E (C.drop (i.toNat+1)))∧(ae E (C.take i.toNat)).length=i.toNat*E.size:=by
 have hb:=oA h
 refine⟨?_,by rw[bG,acU];congr 1;omega⟩
 rw[Ps E C i.toNat x (H2 h) y,<- dY,adR]
 congr 2
 have:i.toNat*E.size+E.size=(i.toNat+1)*E.size:=by rw[adz]
 rw[this,nQ]
theorem U2 {γ:Type} {E:hY γ} {C:List γ} {i:Int} {x:γ} (h:P.idx C i=some x):ae E C=ae E (C.take i.toNat)++(E.cells x++ae E (C.drop (i.toNat+1))):=by
 have h1:=(BY (E:=E) h x).1
 have h2:C.set i.toNat x=C:=by
  obtain⟨hlt,he⟩:=ac4.1 (H2 h)
  rw[<- he,List.set_getElem_self]
 rwa [h2]at h1
theorem Rw {α β γ:Type} {ty t s:Nat} {EN:hY γ} {EF:hY (Bool×γ)} (hF:∀x,EF.cells (false,x)=EN.cells x) {A:kO α} {F:γ->α->Option (γ×β)} {R:β->D} {C:List (Bool×γ)} {i:Int} {q:γ} (h:P.idx C i=some (false,q)) (a:α) :
  D8 ty t s EN A F R ty t s (i.toNat*EF.size) (ae EF C) (A.ds a)=(F q a).map fun r=>(R r.2,ae EF (C.set i.toNat (false,r.1))):=by
 have h1:=U2 (E:=EF) h
 have h2:=(BY (E:=EF) h (false,q)).2
 rw[h1,<- h2,hF,Ik]
 congr 1
 funext r
 rw[(BY (E:=EF) h (false,r.1)).1,hF]
theorem WS {K:Nat} (pre cs post:List D) (hK:cs.length=K):qt K pre.length (pre++(cs++post))=pre++(cs.map DF++post):=by
 apply aeD
 intro j
 rw[sg]
 by_cases h1:j<pre.length
 ·rw[adh (l₁:=pre) h1,adh (l₁:=pre) h1,acO h1]
  simp only[Option.map_some]
  rw[if_neg (by omega)]
 ·rw[adi (l₁:=pre) (by omega),adi (l₁:=pre) (by omega)]
  by_cases h2:j-pre.length<cs.length
  ·rw[adh (l₁:=cs) h2,adh (l₁:=cs.map DF) (by rw[ac5];exact h2),acy,acO h2]
   simp only[Option.map_some]
   rw[if_pos (by omega)]
  ·rw[adi (l₁:=cs) (by omega),adi (l₁:=cs.map DF) (by rw[ac5];omega),ac5]
   cases post[j-pre.length-cs.length]? with
   | none=>rfl
   | some d =>
    simp only[Option.map_some]
    rw[if_neg (by omega)]
theorem aai {γ:Type} {s:Nat} {E EN:hY γ} {EF:hY (Bool×γ)} (hF:∀x,EF.cells (false,x)=EN.cells x) (hT:∀x,EF.cells (true,x)=E.cells x) (hu:∀x,(EN.cells x).map DF=E.cells x) (ho:∀x,(EN.cells x).all (vv s)=true) {C:List (Bool×γ)} {i:Int} {x:Bool×γ} (h:P.idx C i=some x) (q:γ) :
  (((ae EF (C.set i.toNat (false,q))).drop (i.toNat*EF.size)).take EF.size).all (vv s)=true∧qt EF.size (i.toNat*EF.size) (ae EF (C.set i.toNat (false,q)))=ae EF (C.set i.toNat (true,q)):=by
 obtain⟨h1,h2⟩:=BY (E:=EF) h (false,q)
 have h3:=EF.len (false,q)
 have hb:=oA h
 refine⟨?_,?_⟩
 ·rw[h1,<- h2,List.drop_left' rfl,adV (by omega),adW (by omega),hF]
  exact ho q
 ·rw[(BY (E:=EF) h (true,q)).1,h1,<- h2,WS _ _ _ h3,hF,hu,hT]
section
variable {pre l:List D} {k m:Nat}
theorem WL:(pre++l).take (pre.length+k)=pre++l.take k:=List.take_length_add_append ..
theorem Sk:(pre++l).take pre.length=pre:=List.take_left' rfl
theorem Oc:(pre++l).drop (pre.length+k)=l.drop k:=List.drop_length_add_append ..
theorem QS:(pre++l).drop pre.length=l:=List.drop_left' rfl
theorem QT:(pre++l).drop (pre.length+k+m)=l.drop (k+m):=by rw[acW,Oc]
theorem OJ:(pre.length+k<=(pre++l).length)=(k<=l.length):=by rw[adF];exact propext ⟨fun h=>by omega,fun h=>by omega⟩
theorem Ro:(pre.length+k+m<=(pre++l).length)=(k+m<=l.length):=by rw[acW,OJ]
end
theorem Mj {ty t s nv:Nat} {cs:List D} : gj ty t s nv cs=⟨0,ty,[.nr t s nv cs],false,true,true⟩:=afp
theorem YX:type_of% (ai @Mj<|ai @WL<|ai @Sk<|ai @Oc<|ai @QS<|ai @QT<|ai @OJ<|ai @Ro<|@adR):=⟨@Mj,@WL,@Sk,@Oc,@QS,@QT,@OJ,@Ro,@adR⟩
theorem Lu {τ:Ty} {h:Nat->Option Row} {x v o:Nat} : m5 τ h x v o none=none:=afp
theorem Re {d:D} {l:List D} : (d::l).head? = some d:=afp
theorem RQ {r:Row} {f:Row->Option Row} : (some r).bind f=f r:=afp
theorem RO {f:Row->Option Row} : (none:Option Row).bind f=none:=afp
theorem JI {x o:Nat} : ZY x o none=none:=afp
theorem Jd {q:Option (List D×List Nat)} : caC none q=none:=afp
theorem ED {Γ:Env} {h:Nat->Option Row} {e g:Nat} {dst:Option Nat} : Uk Γ h e dst g none=none:=afp
theorem WT {o:Nat} {cs:List D} : qt 0 o cs=cs:=Hp o cs
theorem X9 {x o n:Nat} (h:n<1000000):(NK x o=n)=False:=by
 have:=fL x o
 have:=cP
 exact propext ⟨fun e=>by omega,fun e=>e.elim⟩
theorem TW {x o n:Nat} (h:n<1000000):(n=NK x o)=False:=by
 have:=fL x o
 have:=cP
 exact propext ⟨fun e=>by omega,fun e=>e.elim⟩
theorem zB {g:Nat} : a6.lends g=false:=afp
theorem Gi {g:Nat} {l:Option (D×Row)} {acw:List D} : a6.sem g l acw=none:=afp
theorem Ba {Γ:Env} {h:Nat->Option Row} {e g:Nat} {dst:Option Nat} {args:List D} {b:Bool} (hb:b=false) (hs:∀acw,Γ.sem g none acw=none):A9 b Γ h e dst g args=none:=by
 subst hb
 rw[yl]
 simp only[Uk]
 cases bj h args with
 | none=>rfl
 | some q =>
  obtain⟨acw,fr⟩:=q
  simp only[hs]
  rfl
theorem YW:type_of% (ai @zB<|ai @Gi<|@Ba):=⟨@zB,@Gi,@Ba⟩
theorem vn:type_of% (ai @GV<|ai @FI<|ai @GW<|ai @X9<|ai @TW<|ai @SX.eq_1<|ai @JI<|ai @Jd<|ai @ED<|ai @WT<|ai @RQ<|ai @RO<|ai @Lu<|ai @Re<|ai @ux<|ai @E2<|ai @Bu<|ai @E3<|ai @JS<|@th):=⟨@GV,@FI,@GW,@X9,@TW,@SX.eq_1,@JI,@Jd,@ED,@WT,@RQ,@RO,@Lu,@Re,@ux,@E2,@Bu,@E3,@JS,@th⟩
end Go.Proofs.Ytchndpjlijbplaa.Am
namespace Go.Proofs.Ytchndpjlijbplaa.Am
open Go.RowKit Go.Proofs.Ytchndpjlijbplaa.P Go.Shelf Go.Lib
set_option linter.unusedSimpArgs false
set_option linter.unusedVariables false
section
variable {P:Program}
theorem rY (w:World) (dT sT ty elem:TypeId) (K b o dLen dCap:Nat) (a:Addr) (sLen sCap:Nat) (cs:List Value)
  (hu:P.underlying dT=some (.slice elem)) (hs:(P.info? elem).map (·.size)=some K) (hn:cs.length=Nat.min sLen dLen*K)
  (hsrc:∀j v,cs[j]? = some v->w.cell? (a.add j)=some v) (hc:∀j,j<cs.length->(w.cell? ⟨b,o+j,none⟩).isSome=true) (hf:∀j,j<cs.length->w.frozen? ⟨b,o+j,none⟩=false) (h1:∀v∈cs,v.oneCell'=true) :
  (Builtin.copy_ #[dT,sT] ty #[.slice (some ⟨b,o,none⟩) dLen dCap,.slice (some a) sLen sCap]).run P w=.ok (goInt (Nat.min sLen dLen)) (w.setCells b o cs):=by
 have hl:=run_loadCells_list (P:=P) w a cs hsrc
 have hst:=run_storeCells_cells (P:=P) b o cs 0 w (by simpa using hc) (by simpa using hf) h1
 cases hq:P.info? elem with
 | none=>simp[hq]at hs
 | some i =>
  have hi:i.size=K:=by simpa [hq] using hs
  simp[Builtin.copy_,run_underlying hu,Builtin.lenOf,Builtin.firstCells,sizeOf,typeInfo,hq,hi,<- hn,hl,hst]
theorem yS (w:World) {ops:Array Oper} {rest:List Oper} {o:Oper} {a:Act} {Q:Exit->Act->World->Prop} (hgd:o.guard=none) (s:Operand) (t:TypeId)
  (ho:o.op=.call { callee := .builtin .clear,args:=#[s],argTypes:=#[t] }) (v:Value) (hd:a.eval s=v) {v':Value} {w':World}
  (hr:(Builtin.clear_ #[t] o.type #[v]).run P w=.ok v' w') (h:wpList P ops Q rest (a.put o.dst v') w'):wpList P ops Q (o::rest) a w :=
 wpList_plain hgd fun _ hK=>by
  unfold Oper.wp execOp
  simp only[ho,resolve,invoke,builtin,ac8,Sem.run_pure,Result.andThen_ok,List.map_toArray,acH,adr,hd,hr]
  exact hK _ _ h
theorem M4 (w:World) (t e ty:TypeId) (z:Value) (ht:P.underlying t=some (.slice e)) (hv:∀w,(zeroValue e).run P w=.ok z w) (b o n c:Nat) (hn:0<n) (cs:List Value) (hcs:(Builtin.zeroCells z.cells n).toList=cs) (h1:∀v∈cs,v.oneCell'=true)
  (hc:∀j,j<cs.length->(w.cell? ⟨b,o+j,none⟩).isSome=true) (hf:∀j,j<cs.length->w.frozen? ⟨b,o+j,none⟩=false) :
  (Builtin.clear_ #[t] ty #[.slice (some ⟨b,o,none⟩) n c]).run P w=.ok (.tuple #[]) (w.setCells b o cs):=by
 have hst:=run_storeCells_cells (P:=P) b o cs 0 w (by simpa using hc) (by simpa using hf) h1
 simp only[Nat.add_zero]at hst
 obtain⟨m,rfl⟩:∃m,n=m+1:=⟨n-1,by omega⟩
 simp[Builtin.clear_,run_underlying ht,hv,hcs,hst]
end
theorem H4:(Try.prog.info? 74).map (fun i=>(i.zero,i.size,i.bytes))=some (some (Value.agg #[.int .i64 0,.int .i64 0,.slice none 0 0,.int .i64 0,.slice none 0 0]),5,72):=by kernel_rfl
theorem V3:(Try.prog.info? 74).map (·.size)=some 5:=by kernel_rfl
set_option maxHeartbeats 4000000 in
set_option maxRecDepth 100000 in
theorem JT (a:Option Addr) (n c i:Nat) (w:World) (hi:i<=n) (hn:n<=c) (hc:c<=9223372036854775807) (ha:a=none->c=0) :
  Calls Try.prog 70 #[.slice a n c,.int .i64 i,.int .i64 i] w fun e w'=>e=.returned (.slice a n c)∧w'=w:=by
 go_enter Try.func70,Try.ntmps70
 cases a with
 | none =>
  have:=ha rfl
  subst this
  obtain rfl:n=0:=by omega
  obtain rfl:i=0:=by omega
  go_wp2
  all_goals (go_ret;exact⟨rfl,rfl⟩)
 | some a =>
  obtain⟨ab,ao,asp⟩:=a
  go_wp2
  all_goals (go_ret;exact⟨rfl,rfl⟩)
def kN:Value := .agg #[.int .i64 0,.int .i64 0,.slice none 0 0,.int .i64 0,.slice none 0 0]
theorem z8:kN.cells = #[.int .i64 0,.int .i64 0,.slice none 0 0,.int .i64 0,.slice none 0 0]:=rfl
theorem mc (n:Nat):(Builtin.zeroCells kN.cells n).toList.length=n*5:=by
 simp[Builtin.zeroCells,z8]
theorem TM (n:Nat):∀v∈(Builtin.zeroCells kN.cells n).toList,v.oneCell'=true:=by
 intro v hv
 simp only[Builtin.zeroCells,z8,adv,acA]at hv
 obtain⟨i,_,rfl⟩:=hv
 have h5:i % 5<5:=adw _ (by decide)
 simp only[adP,List.length_cons,List.length_nil,adq,Nat.reduceAdd]
 generalize i % 5=k at *
 match k,h5 with
 | 0,_=>rfl
 | 1,_=>rfl
 | 2,_=>rfl
 | 3,_=>rfl
 | 4,_=>rfl
set_option maxHeartbeats 4000000 in
set_option maxRecDepth 100000 in
theorem UH (b off n c i j:Nat) (cs:List Value) (w:World) (hl:cs.length=n*5) (hcs:∀k v,cs[k]? = some v->w.cell? ⟨b,off+k,none⟩=some v) (hfz:∀k,w.frozen? ⟨b,k,none⟩=false) (h1:∀v∈cs,v.oneCell'=true)
  (hnc:n<=c) (hc:c<=9223372036854775807) (hij:i<j) (hj:j<=n) :
  Calls Try.prog 70 #[.slice (some ⟨b,off,none⟩) n c,.int .i64 i,.int .i64 j] w fun e w'=>e=.returned (.slice (some ⟨b,off,none⟩) (i+(n-j)) c) ∧
   w'=(w.drew.setCells b (off+i*5) (cs.drop (j*5))).setCells b (off+(i+(n-j))*5) (Builtin.zeroCells kN.cells (n-(i+(n-j)))).toList:=by
 have t0:=Try.underlying67
 obtain⟨i0,hi0,hz0,hz1,hz2⟩:=info_parts H4
 have v0:∀w,(zeroValue 74).run Try.prog w=.ok kN w:=fun w=>by simp[zeroValue,typeInfo,hi0,hz0,kN]
 obtain⟨A,hA,hsrc⟩:∃A:Addr,(if c=j then some (⟨b,off,none⟩:Addr) else some ⟨b,off+j*5,none⟩)=some A∧Hid (∀t u,(cs.drop (j*5))[t]? = some u->w.drew.cell? (A.add t)=some u):=by
  by_cases h:c=j
  ·refine⟨⟨b,off,none⟩,by simp[h],fun t u hu =>?_⟩
   have h0:(cs.drop (j*5)).length=0:=by rw[acV,hl];omega
   rw[List.length_eq_zero_iff.1 h0]at hu
   simp at hu
  ·refine⟨⟨b,off+j*5,none⟩,by simp[h],fun t u hu =>?_⟩
   rw[acS]at hu
   rw[afo,acW]
   exact hcs _ _ hu
 have hdl:(cs.drop (j*5)).length=(n-j)*5:=by rw[acV,hl,Nat.sub_mul]
 have hsp:∀k,k<n*5->(w.cell? ⟨b,off+k,none⟩).isSome=true:=fun k hk=>by
  rw[hcs k _ (acO (by omega))];rfl
 have s1:Hid ((cs.drop (j*5)).length=(n-j)*5):=hdl
 have s2:Hid (∀u∈cs.drop (j*5),u.oneCell'=true):=fun u hu=>h1 u (adl hu)
 have s3:Hid (∀t,t<(cs.drop (j*5)).length->(w.drew.cell? ⟨b,off+i*5+t,none⟩).isSome=true∧w.drew.frozen? ⟨b,off+i*5+t,none⟩=false):=by
  intro t ht
  rw[hdl]at ht
  rw[acW]
  exact⟨hsp _ (by omega),hfz _⟩
 obtain⟨W1,hW1⟩:∃W1,W1=w.drew.setCells b (off+i*5) (cs.drop (j*5)):=⟨_,rfl⟩
 have hcl:∀ty,(Builtin.clear_ #[67] ty #[.slice (some ⟨b,off+(i+(n-j))*5,none⟩) (n-(i+(n-j))) (c-(i+(n-j)))]).run Try.prog W1=.ok (.tuple #[]) (W1.setCells b (off+(i+(n-j))*5) (Builtin.zeroCells kN.cells (n-(i+(n-j)))).toList) :=
  fun ty=>M4 W1 _ _ ty kN t0 v0 b _ _ _ (by omega) _ rfl (TM _) (fun k hk=>by
   rw[mc]at hk
   rw[hW1,acW]
   exact isSome_setCells b _ _ _ (fun t ht=>(s3.out t ht).1) _ (hsp _ (by omega))) (fun k hk=>by rw[hW1,World.frozen?_setCells];exact hfz _)
 have hW:Hid (W1=w.drew.setCells b (off+i*5) (cs.drop (j*5))):=hW1
 rw[<- hW1]
 have hic:i<=c:=by omega
 have hjc:j<=c:=by omega
 have hne:¬(i=j):=by omega
 have mixed:Try.prog.follows .mixedOrders=true:=by kernel_rfl
 generalize (Builtin.zeroCells kN.cells (n-(i+(n-j)))).toList=Z at hcl ⊢
 clear hW1 hcs hdl hsp
 go_enter Try.func70,Try.ntmps70
 go_wp2_with fail
 go_region_law_o (refine step_append_room rfl (.tmp 22) (.tmp 25) 67 rfl 74 i0 5 t0 hi0 hz1 b off i c (by simp[Act.eval,Act.put]) A (n-j) (c-j) (cs.drop (j*5)) (by simp[Act.eval,Act.put]) s1.out hsrc.out s2.out (by omega) s3.out ?_;rw[<- hW.out])
 go_wp2_with (at_builtin;refine yS _ rfl _ 67 rfl _ rfl (hcl _) ?_)
 go_ret
 exact⟨rfl,rfl⟩
set_option maxHeartbeats 4000000 in
set_option maxRecDepth 100000 in
theorem SW (b off n c i vb voff m vc:Nat) (cs vs:List Value) (w:World) (hi:i<n) (hm:0<m) (hroom:n+m<=c) (hc63:c<=9223372036854775807) (hvb:vb≠b)
  (hcl:cs.length=n*5) (hvl:vs.length=m*5)
  (hcs:∀j v,cs[j]? = some v->w.cell? ⟨b,off+j,none⟩=some v) (hsp:∀j,j<(n+m)*5->(w.cell? ⟨b,off+j,none⟩).isSome=true) (hfz:∀j,w.frozen? ⟨b,j,none⟩=false)
  (hvs:∀j v,vs[j]? = some v->w.cell? ⟨vb,voff+j,none⟩=some v) (h1c:∀v∈cs,v.oneCell'=true) (h1v:∀v∈vs,v.oneCell'=true)
  (tA tB:TypeId) (kA kB:Nat) (hsa:w.shape? vb=some (tA,kA)) (hsb:w.shape? b=some (tB,kB)) (hkB:kB≠0) (hfa:w.frozen? ⟨vb,voff,none⟩=false) (hfe:w.frozen? ⟨vb,kA,none⟩=false) :
  Calls Try.prog 99 #[.slice (some ⟨b,off,none⟩) n c,.int .i64 i,.slice (some ⟨vb,voff,none⟩) m vc] w fun e w' =>
   e=.returned (.slice (some ⟨b,off,none⟩) (n+m) c)∧w'=(w.drew.setCells b (off+(i+m)*5) (cs.drop (i*5))).setCells b (off+i*5) vs:=by
 have t0:=Try.underlying67
 have hz1:¬((m:Int)=0):=by omega
 have hz2:¬((i:Int)=(n:Int)):=by omega
 have hsz:=V3
 have hov:∀lb cb,(callFunc 114 #[.slice (some ⟨vb,voff,none⟩) m vc,.slice (some ⟨b,off+(i+m)*5,none⟩) lb cb]).run Try.prog w=.ok (.value (.bool false)) w:=fun lb cb=>by
  rw[run_callFunc_extern Try.func114 (by kernel_rfl) (by kernel_rfl) (by kernel_rfl) (e:=Extern.SlicesOverlaps.overlaps #[67,67] #[4]) (by kernel_rfl),
   Lib.run_overlaps_apart w 67 4 74 t0 5 Try.sizeOf74 ⟨vb,voff,none⟩ ⟨b,off+(i+m)*5,none⟩ m vc lb cb hvb tA tB kA kB hsa hsb hkB hfa hfe]
  rfl
 have hdl:(cs.drop (i*5)).length=(n-i)*5:=by rw[acV,hcl,Nat.sub_mul]
 have mixed:Try.prog.follows .mixedOrders=true:=by kernel_rfl
 have hw1:IntKind.i64.wrap ((i:Int)+(m:Int))=(i:Int)+(m:Int):=by rw[IntKind.wrap_i64];omega
 have hb1:(0:Int)<=(i:Int)+(m:Int):=by omega
 have hin:i<=n:=by omega
 have htn:((i:Int)+(m:Int)).toNat=i+m:=by omega
 have hb2:¬(c=i+m):=by omega
 have hb3:(i:Int)<=(n:Int)+(m:Int):=by omega
 have hb4:¬(c=i):=by omega
 have hcp1:∀ty dc sc,(Builtin.copy_ #[67,67] ty #[.slice (some ⟨b,off+(i+m)*5,none⟩) (n+m-(i+m)) dc,.slice (some ⟨b,off+i*5,none⟩) (n+m-i) sc]).run Try.prog w.drew=.ok (goInt (Nat.min (n+m-i) (n+m-(i+m)))) (w.drew.setCells b (off+(i+m)*5) (cs.drop (i*5))):=fun ty dc sc =>
  rY w.drew _ _ ty 74 5 b (off+(i+m)*5) (n+m-(i+m)) dc ⟨b,off+i*5,none⟩ (n+m-i) sc (cs.drop (i*5)) t0 hsz (by rw[hdl];congr 1;simp only[Nat.min_def];split<;>omega)
   (fun j v hj=>by rw[afo,acW];exact hcs (i*5+j) v (by rwa [acS]at hj))
   (fun j hj=>by rw[acW];exact hsp _ (by omega)) (fun j hj=>hfz _) (fun v hv=>h1c v (adl hv))
 obtain⟨W1,hW1⟩:∃W1,W1=w.drew.setCells b (off+(i+m)*5) (cs.drop (i*5)):=⟨_,rfl⟩
 have hsp1:∀k,k<(n+m)*5->(W1.cell? ⟨b,off+k,none⟩).isSome=true:=fun k hk=>by
  rw[hW1]
  exact isSome_setCells b _ _ _ (fun j hj=>by rw[acW];exact hsp _ (by omega)) _ (hsp k hk)
 have hcp2:∀(W:World),(∀x,W.cell? x=W1.cell? x)->(∀x,W.frozen? x=W1.frozen? x)->∀ty dc,(Builtin.copy_ #[67,67] ty #[.slice (some ⟨b,off+i*5,none⟩) (n+m-i) dc,.slice (some ⟨vb,voff,none⟩) m vc]).run Try.prog W=.ok (goInt (Nat.min m (n+m-i))) (W.setCells b (off+i*5) vs):=fun W hWc hWf ty dc =>
  rY W _ _ ty 74 5 b (off+i*5) (n+m-i) dc ⟨vb,voff,none⟩ m vc vs t0 hsz (by rw[hvl];congr 1;simp only[Nat.min_def];split<;>omega)
   (fun j v hj=>by
    rw[afo,hWc,hW1,World.cell?_setCells_out b _ _ _ _ (fun h _=>absurd h hvb)]
    exact hvs j v hj)
   (fun j hj=>by rw[hWc,acW];exact hsp1 _ (by omega)) (fun j hj=>by rw[hWf,hW1,World.frozen?_setCells];exact hfz _) h1v
 rw[<- hW1]at hcp1
 go_enter Try.func99,Try.ntmps99
 go_wp2_with (simp only[hov])
 go_region_law_o (refine step_copy_runI rfl _ _ 67 67 rfl _ _ (by simp[Act.eval,Act.put]) (by simp[Act.eval,Act.put]) (hcp1 _ _ _) ?_)
 go_wp2_with (at_builtin;refine wpList_copy_runI _ rfl _ _ 67 67 rfl _ _ rfl rfl (hcp2 _ (fun _=>rfl) (fun _=>rfl) _ _) ?_)
 go_ret
 first|exact⟨rfl,rfl⟩|exact⟨rfl,by rw[hW1]⟩
set_option maxHeartbeats 4000000 in
set_option maxRecDepth 100000 in
theorem H6 (b off n c vb voff m vc:Nat) (vs:List Value) (w:World) (hm:0<m) (hroom:n+m<=c) (hc63:c<=9223372036854775807)
  (hvl:vs.length=m*5) (hsp:∀j,j<m*5->(w.cell? ⟨b,off+n*5+j,none⟩).isSome=true) (hfz:∀j,w.frozen? ⟨b,j,none⟩=false)
  (hvs:∀j v,vs[j]? = some v->w.cell? ⟨vb,voff+j,none⟩=some v) (h1v:∀v∈vs,v.oneCell'=true) :
  Calls Try.prog 99 #[.slice (some ⟨b,off,none⟩) n c,.int .i64 n,.slice (some ⟨vb,voff,none⟩) m vc] w fun e w' =>
   e=.returned (.slice (some ⟨b,off,none⟩) (n+m) c)∧w'=w.setCells b (off+n*5) vs:=by
 have t0:=Try.underlying67
 have mixed:Try.prog.follows .mixedOrders=true:=by kernel_rfl
 obtain⟨i0,hi0,hz0,hzs,hzb⟩:=info_parts H4
 have hz1:¬((m:Int)=0):=by omega
 have hsrc:Src Try.prog i0.size 67 (.slice (some ⟨vb,voff,none⟩) m vc) m vs w:=Src.ofSlice w t0 ⟨vb,voff,none⟩ m vc vs (by rw[hzs];omega) (fun j u hj=>by rw[afo];exact hvs j u hj) h1v
 have e5:off+n*i0.size=off+n*5:=by rw[hzs]
 have hsp':Hid (∀j,j<vs.length->(w.cell? ⟨b,off+n*i0.size+j,none⟩).isSome=true):=fun j hj=>by rw[e5];exact hsp j (by omega)
 rw[<- e5]
 have hin:n<=c:=by omega
 go_enter Try.func99,Try.ntmps99
 go_wp2_with (at_builtin;refine wpList_append_room_src _ rfl _ _ 67 67 rfl 74 i0 t0 hi0 b off n c rfl _ rfl m vs hsrc hroom hsp'.out (fun _ _=>hfz _) ?_)
 go_ret
 exact⟨rfl,by rw[hzs]⟩
set_option maxHeartbeats 4000000 in
set_option maxRecDepth 100000 in
theorem xr (base:Option Addr) (n c vb voff m vc:Nat) (cs vs:List Value) (w:World) (hm:0<m) (hnc:n<=c) (hc63:c<=9223372036854775807) (hroom:c<n+m) (hbig:(n+m)*72<=140737488355328)
  (hcl:cs.length=n*5) (hvl:vs.length=m*5) (hnil:base=none->n=0)
  (hcs:∀a,base=some a->∀j v,cs[j]? = some v->w.cell? (a.add j)=some v)
  (hvs:∀j v,vs[j]? = some v->w.cell? ⟨vb,voff+j,none⟩=some v) (h1v:∀v∈vs,v.oneCell'=true) :
  Calls Try.prog 99 #[.slice base n c,.int .i64 n,.slice (some ⟨vb,voff,none⟩) m vc] w fun e w' =>
   e=.returned (.slice (some ⟨w.heap.size,0,none⟩) (n+m) (grownCap w (n+m) c 74)) ∧
   w'=w.drew.alloc (.cells ((cs++vs).toArray++Builtin.zeroCells kN.cells (grownCap w (n+m) c 74-(n+m))) 74):=by
 have t0:=Try.underlying67
 have mixed:Try.prog.follows .mixedOrders=true:=by kernel_rfl
 obtain⟨i0,hi0,hz0,hzs,hzb⟩:=info_parts H4
 have hz1:¬((m:Int)=0):=by omega
 have hsrc:Src Try.prog i0.size 67 (.slice (some ⟨vb,voff,none⟩) m vc) m vs w:=by
  rw[hzs]
  exact Src.ofSlice w t0 ⟨vb,voff,none⟩ m vc vs (by omega) (fun j u hj=>by rw[afo];exact hvs j u hj) h1v
 have hold:(Builtin.firstCells i0.size n (.slice base n c)).run Try.prog w.drew=.ok cs.toArray w.drew:=by
  rw[hzs]
  cases base with
  | none =>
   have h0:=hnil rfl
   subst h0
   obtain rfl:cs=[]:=List.length_eq_zero_iff.1 (by omega)
   exact run_firstCells_none w.drew 5 0 0 c
  | some a=>exact run_firstCells_some w.drew 5 n a n c cs (by omega) (fun j v hj=>hcs a rfl j v hj)
 have hrun:∀ty,(Builtin.append_ #[67,67] ty #[.slice base n c,.slice (some ⟨vb,voff,none⟩) m vc]).run Try.prog w=_:=fun ty =>
  run_append_grow_src w 67 67 ty 74 i0 _ t0 hi0 hz0 base n c cs hold _ m vs hsrc hroom (by omega) (by rw[hzb];exact growslice_fits hroom hbig)
 generalize hR:w.drew.alloc (.cells ((cs++vs).toArray++Builtin.zeroCells kN.cells (grownCap w (n+m) c 74-(n+m))) 74)=R
 have hrun':∀ty,(Builtin.append_ #[67,67] ty #[.slice base n c,.slice (some ⟨vb,voff,none⟩) m vc]).run Try.prog w=.ok (.slice (some ⟨w.heap.size,0,none⟩) (n+m) (grownCap w (n+m) c 74)) R:=fun ty=>by rw[hrun ty,<- hR];rfl
 clear hrun hold hR
 go_enter Try.func99,Try.ntmps99
 cases base with
 | none =>
  have h0:=hnil rfl
  subst h0
  go_wp2_with (at_builtin;refine Lib.wpList_append_run _ rfl _ _ _ _ rfl _ _ rfl rfl _ _ (hrun' _) ?_)
  go_ret
  exact⟨rfl,rfl⟩
 | some a =>
  obtain⟨ab,ao,asp⟩:=a
  go_wp2_with (at_builtin;refine Lib.wpList_append_run _ rfl _ _ _ _ rfl _ _ rfl rfl _ _ (hrun' _) ?_)
  all_goals (go_ret;exact⟨rfl,rfl⟩)
set_option maxHeartbeats 4000000 in
set_option maxRecDepth 100000 in
theorem Vm (b off n c i vb voff m vc:Nat) (cs vs:List Value) (w:World) (hi:i<n) (hm:0<m) (hnc:n<=c) (hroom:c<n+m) (hbig:(n+m)*72<=140737488355328)
  (hcl:cs.length=n*5) (hvl:vs.length=m*5)
  (hcs:∀j v,cs[j]? = some v->w.cell? ⟨b,off+j,none⟩=some v)
  (hvs:∀j v,vs[j]? = some v->w.cell? ⟨vb,voff+j,none⟩=some v) (h1c:∀v∈cs,v.oneCell'=true) (h1v:∀v∈vs,v.oneCell'=true) :
  Calls Try.prog 99 #[.slice (some ⟨b,off,none⟩) n c,.int .i64 i,.slice (some ⟨vb,voff,none⟩) m vc] w fun e w' =>
   e=.returned (.slice (some ⟨w.heap.size,0,none⟩) (n+m) (grownCap w (n+m) c 74)) ∧
   w'=(((w.alloc (.cells ((cs.take (i*5)).toArray++Builtin.zeroCells kN.cells (n+m-i)++Builtin.zeroCells kN.cells (grownCap w (n+m) c 74-(n+m))) 74)).drew.setCells w.heap.size (i*5) vs).drew).setCells w.heap.size ((i+m)*5) (cs.drop (i*5)):=by
 have t0:=Try.underlying67
 have mixed:Try.prog.follows .mixedOrders=true:=by kernel_rfl
 obtain⟨i0,hi0,hz0,hzs,hzb⟩:=info_parts H4
 have hz1:¬((m:Int)=0):=by omega
 have hz2:¬((i:Int)=(n:Int)):=by omega
 have hz3:(c:Int)<(n:Int)+(m:Int):=by omega
 have hsz:=V3
 have hbw:b<w.heap.size:=block_lt_of_cell (hcs 0 _ (acO (by omega)))
 have hvw:vb<w.heap.size:=block_lt_of_cell (hvs 0 _ (acO (by omega)))
 have hkk:(n:Int)+(m:Int)-(i:Int)=((n+m-i:Nat):Int):=by omega
 have hik:i+(n+m-i)=n+m:=by omega
 have hold:(Builtin.firstCells i0.size i (.slice (some ⟨b,off,none⟩) i c)).run Try.prog w.drew=.ok (cs.take (i*5)).toArray w.drew:=by
  rw[hzs]
  exact run_firstCells_some w.drew 5 i ⟨b,off,none⟩ i c (cs.take (i*5)) (by rw[acU];omega) (fun j v hj=>by
   rw[afo]
   rw[acR]at hj
   split at hj
   ·exact hcs j v hj
   ·cases hj)
 obtain⟨G,hG⟩:∃G,G=grownCap w (n+m) c 74:=⟨_,rfl⟩
 obtain⟨ROW,hROW⟩:∃ROW:Array Value,ROW=(cs.take (i*5)).toArray++Builtin.zeroCells kN.cells (n+m-i)++Builtin.zeroCells kN.cells (G-(n+m)):=⟨_,rfl⟩
 have hrz:∀ty,(Builtin.append_ #[67,3] ty #[.slice (some ⟨b,off,none⟩) i c,.int .i64 ((n:Int)+(m:Int)-(i:Int))]).run Try.prog w =
   .ok (.slice (some ⟨w.heap.size,0,none⟩) (n+m) G) (w.drew.alloc (.cells ROW 74)):=fun ty=>by
  have h:=Lib.run_append_grow_zeros w 67 3 ty 74 i0 kN .i64 .i64 t0 Try.underlying3 hi0 hz0 (some ⟨b,off,none⟩) i c (cs.take (i*5)) hold (n+m-i) (by omega) (by omega) (by omega) (by omega) (by rw[hzb];omega) (by rw[hzb,hik];exact growslice_fits hroom hbig)
  rw[hik]at h
  rw[hkk,hROW,hG]
  exact h
 rw[<- hG]
 rw[<- hROW]
 have hRl:(n+m)*5<=ROW.size:=by
  have h1:(Builtin.zeroCells kN.cells (n+m-i)).size=(n+m-i)*5:=by have:=mc (n+m-i);simpa using this
  rw[hROW,adO,adO,h1]
  simp only[adP,acU]
  omega
 obtain⟨W1,hW1⟩:∃W1,W1=w.drew.alloc (.cells ROW 74):=⟨_,rfl⟩
 rw[<- hW1]at hrz
 have hN:∀j,j<(n+m)*5->(W1.cell? ⟨w.heap.size,j,none⟩).isSome=true:=fun j hj=>by
  rw[hW1,World.cell?_alloc_at (w:=w.drew) ROW _ w.heap.size j rfl,adG (by omega)];rfl
 have hNf:∀j,W1.frozen? ⟨w.heap.size,j,none⟩=false:=fun j=>by rw[hW1];exact World.frozen?_alloc_at (w:=w.drew) ROW _ w.heap.size j rfl
 have hOb:∀j v,w.cell? ⟨b,j,none⟩=some v->W1.cell? ⟨b,j,none⟩=some v:=fun j v h=>by rw[hW1,World.cell?_alloc_past (w:=w.drew) _ b j hbw];exact h
 have hOv:∀j v,w.cell? ⟨vb,j,none⟩=some v->W1.cell? ⟨vb,j,none⟩=some v:=fun j v h=>by rw[hW1,World.cell?_alloc_past (w:=w.drew) _ vb j hvw];exact h
 have hcpA:∀(W:World),(∀x,W.cell? x=W1.cell? x)->(∀x,W.frozen? x=W1.frozen? x)->∀ty dc,(Builtin.copy_ #[67,67] ty #[.slice (some ⟨w.heap.size,i*5,none⟩) (n+m-i) dc,.slice (some ⟨vb,voff,none⟩) m vc]).run Try.prog W=.ok (goInt (Nat.min m (n+m-i))) (W.setCells w.heap.size (i*5) vs):=fun W hWc hWf ty dc =>
  rY W _ _ ty 74 5 w.heap.size (i*5) (n+m-i) dc ⟨vb,voff,none⟩ m vc vs t0 hsz (by rw[hvl];congr 1;simp only[Nat.min_def];split<;>omega)
   (fun j v hj=>by rw[afo,hWc];exact hOv _ v (hvs j v hj))
   (fun j hj=>by rw[hWc];exact hN _ (by omega)) (fun j hj=>by rw[hWf];exact hNf _) h1v
 have hGn:n+m<=G:=by rw[hG];exact grownCap_ge w _ _ _
 have hG63:G<=9223372036854775807:=by
  have:=grownCap_le_maxLen w (n+m) c 74 (by unfold maxLen;omega)
  rw[<- hG]at this
  unfold maxLen at this
  omega
 have hGi:¬(G=i):=by omega
 have hGim:¬(G=i+m):=by omega
 have hci:¬(c=i):=by omega
 have hbN:b≠w.heap.size:=by omega
 have hdl:(cs.drop (i*5)).length=(n-i)*5:=by rw[acV,hcl,Nat.sub_mul]
 have hcpB:∀(W:World),(∀x,W.cell? x=(W1.setCells w.heap.size (i*5) vs).cell? x)->(∀x,W.frozen? x=(W1.setCells w.heap.size (i*5) vs).frozen? x)->∀ty dc sc,(Builtin.copy_ #[67,67] ty #[.slice (some ⟨w.heap.size,(i+m)*5,none⟩) (n+m-(i+m)) dc,.slice (some ⟨b,off+i*5,none⟩) (n-i) sc]).run Try.prog W=.ok (goInt (Nat.min (n-i) (n+m-(i+m)))) (W.setCells w.heap.size ((i+m)*5) (cs.drop (i*5))):=fun W hWc hWf ty dc sc =>
  rY W _ _ ty 74 5 w.heap.size ((i+m)*5) (n+m-(i+m)) dc ⟨b,off+i*5,none⟩ (n-i) sc (cs.drop (i*5)) t0 hsz (by rw[hdl];congr 1;simp only[Nat.min_def];split<;>omega)
   (fun j v hj=>by
    rw[afo,hWc,World.cell?_setCells_out _ _ _ _ _ (fun h _=>absurd h hbN),acW]
    exact hOb _ v (hcs (i*5+j) v (by rwa [acS]at hj)))
   (fun j hj=>by rw[hWc];exact isSome_setCells _ _ _ _ (fun t ht=>hN _ (by omega)) _ (hN _ (by omega)))
   (fun j hj=>by rw[hWf,World.frozen?_setCells];exact hNf _) (fun v hv=>h1c v (adl hv))
 subst hW1
 have hE1:∀x,((w.alloc (.cells ROW 74)).drew).cell? x=(w.drew.alloc (.cells ROW 74)).cell? x:=fun x=>rfl
 have hE2:∀x,((w.alloc (.cells ROW 74)).drew).frozen? x=(w.drew.alloc (.cells ROW 74)).frozen? x:=fun x=>rfl
 have hF1:∀x,(((w.alloc (.cells ROW 74)).drew.setCells w.heap.size (i*5) vs).drew).cell? x=((w.drew.alloc (.cells ROW 74)).setCells w.heap.size (i*5) vs).cell? x:=fun x=>rfl
 have hF2:∀x,(((w.alloc (.cells ROW 74)).drew.setCells w.heap.size (i*5) vs).drew).frozen? x=((w.drew.alloc (.cells ROW 74)).setCells w.heap.size (i*5) vs).frozen? x:=fun x=>rfl
 have hw1:IntKind.i64.wrap ((i:Int)+(m:Int))=(i:Int)+(m:Int):=by rw[IntKind.wrap_i64];omega
 have hb1:(0:Int)<=(i:Int)+(m:Int):=by omega
 have hin:i<=n:=by omega
 have htn:((i:Int)+(m:Int)).toNat=i+m:=by omega
 have hb3:(i:Int)<=(n:Int):=by omega
 clear hkk hik hold hROW hG hRl
 go_enter Try.func99,Try.ntmps99
 go_wp2_with (first
  | (at_builtin;refine Lib.wpList_append_run _ rfl _ _ _ _ rfl _ _ rfl rfl _ _ (hrz _) ?_)
  | (at_builtin;refine wpList_copy_runI _ rfl _ _ 67 67 rfl _ _ rfl rfl (hcpA _ hE1 hE2 _ _) ?_)
  | (at_builtin;refine wpList_copy_runI _ rfl _ _ 67 67 rfl _ _ rfl rfl (hcpB _ (fun _=>rfl) (fun _=>rfl) _ _ _) ?_))
 go_region_law_o (refine step_copy_runI rfl _ _ 67 67 rfl (.slice (some ⟨w.heap.size,(i+m)*5,none⟩) (n+m-(i+m)) (G-(i+m))) (.slice (some ⟨b,off+i*5,none⟩) (n-i) (c-i)) (by simp[Act.eval,Act.put]) (by simp[Act.eval,Act.put]) (hcpB _ hF1 hF2 3 (G-(i+m)) (c-i)) ?_)
 go_wp2
 go_ret
 exact⟨rfl,rfl⟩
end Go.Proofs.Ytchndpjlijbplaa.Am
namespace Go.Proofs.Ytchndpjlijbplaa.Am
open Go.RowKit Go.Proofs.Ytchndpjlijbplaa.P
set_option linter.unusedSimpArgs false
set_option linter.unusedVariables false
theorem Xx:TS Try.prog 99 (74,5,72) where
 callable:=⟨_,Try.func99,by kernel_rfl,by kernel_rfl⟩
 pos:=by decide
 calls w go go' u u' i n m cs cs' h1 h2 hne hl hl' ho ho' hi hm hmax:=by
  simp only at *
  obtain⟨g',c',arr',rfl,rfl,b1,b2,b3,b4,b5⟩:∃g c arr,go'=some g∧u'=.slice (some ⟨g.1,g.2,none⟩) m c∧w.heap[g.1]? = some (.cells arr 74 (0,0))∧c*5+g.2=arr.size∧m<=c∧c<=maxLen∧∀(j:Nat) x,cs'[j]? = some x->arr[g.2+j]? = some x:=by
   rcases h2 with⟨g,c,arr,k⟩|⟨_,rfl,_⟩
   ·exact⟨g,c,arr,by simpa using k⟩
   ·omega
  have hvs:∀(j:Nat) v,cs'[j]? = some v->w.cell? ⟨g'.1,g'.2+j,none⟩=some v:=fun j v hj=>by simp[World.cell?,b1,b5 j v hj]
  rcases h1 with⟨g,c,arr,rfl,rfl,a1,a2,a3,a4,a5⟩|⟨rfl,rfl,rfl,A,rfl⟩
  ·have hcs:∀(j:Nat) v,cs[j]? = some v->w.cell? ⟨g.1,g.2+j,none⟩=some v:=fun j v hj=>by simp[World.cell?,a1,a5 j v hj]
   have hfz:∀j,w.frozen? ⟨g.1,j,none⟩=false:=fun j=>by simp[World.frozen?,a1]
   have hbb:g.1≠g'.1:=hne g g' rfl rfl
   have hlt:g.1<w.heap.size:=(acF.1 a1).1
   have hsp:∀j,j<(n+m)*5->n+m<=c->(w.cell? ⟨g.1,g.2+j,none⟩).isSome=true:=fun j hj hr=>by
    simp only[World.cell?,a1]
    rw[adG (by omega)]
    rfl
   by_cases hin:i=n
   ·subst hin
    have ht:cs.take (i*5)=cs:=adW (by omega)
    have hd:cs.drop (i*5)=[]:=ael (by omega)
    rw[ht,hd,aer]
    by_cases hroom:i+m<=c
    ·refine (H6 g.1 g.2 i c g'.1 g'.2 m c' cs' w hm hroom (by unfold maxLen at a4;omega) hl' (fun j hj=>by have:=hsp (i*5+j) (by omega) hroom;rwa [<- acW]at this) hfz hvs ho').mono fun e w' ⟨he,hw⟩ =>?_
     subst hw
     obtain⟨e1,e2,e3,e4,e5,arr2,e6,e7,e8⟩:=fl g.1 cs' (g.2+i*5) w arr a1 (by omega)
     refine⟨_,he,⟨e1,e2,e3,by omega,fun k hk hn=>e5 k (fun h=>hn ⟨g,rfl,h⟩)⟩,g,c,arr2,rfl,.inr ⟨g,rfl,rfl⟩,e6,hroom,a4,by omega,fun j x hj =>?_⟩
     rw[e8]
     by_cases hj2:j<i*5
     ·rw[if_neg (by omega)]
      rw[adh (by omega)]at hj
      exact a5 j x hj
     ·have hjl:=(ac4.1 hj).1
      rw[adF]at hjl
      rw[adi (by omega)]at hj
      rw[if_pos (by omega)]
      rw[<- hj];congr 1;omega
    ·refine (xr (some ⟨g.1,g.2,none⟩) i c g'.1 g'.2 m c' cs cs' w hm a3 (by unfold maxLen at a4;omega) (by omega) hmax hl hl' (fun h=>by cases h) (fun a ha j v hj=>by cases ha;rw[afo];exact hcs j v hj) hvs ho').mono fun e w' ⟨he,hw⟩ =>?_
     subst hw
     have hge:=grownCap_ge w (i+m) c 74
     have hzl:=mc (grownCap w (i+m) c 74-(i+m))
     refine⟨_,he,di.qg ((Below.refl _ w).drew.alloc (by simp) _),(w.heap.size,0),_,_,rfl,.inl (acB _),heap_alloc_new w.drew _,hge,grownCap_le_maxLen _ _ _ _ (by unfold maxLen;omega),?_,fun j x hj =>?_⟩
     ·rw[adj]at hzl
      simp only[adO,adP,adF,hzl];omega
     ·have hjl:=(ac4.1 hj).1
      rw[adq,aef (by simpa using hjl)]
      simpa using hj
   ·have hin':i<n:=by omega
    by_cases hroom:n+m<=c
    ·refine (SW g.1 g.2 n c i g'.1 g'.2 m c' cs cs' w hin' hm hroom (by unfold maxLen at a4;omega) (Ne.symm hbb) hl hl' hcs (fun j hj=>hsp j hj hroom) hfz hvs ho ho' 74 74 arr'.size arr.size (by simp[World.shape?,b1]) (by simp[World.shape?,a1]) (by omega) (by simp[World.frozen?,b1]) (by simp[World.frozen?,b1])).mono fun e w' ⟨he,hw⟩ =>?_
     subst hw
     obtain⟨e1,e2,e3,e4,e5,arr2,e6,e7,e8⟩:=fl g.1 (cs.drop (i*5)) (g.2+(i+m)*5) w.drew arr a1 (by simp;omega)
     obtain⟨f1,f2,f3,f4,f5,arr3,f6,f7,f8⟩:=fl g.1 cs' (g.2+i*5) _ arr2 e6 (by omega)
     refine⟨_,he,⟨f1.trans e1,f2.trans e2,f3.trans e3,by rw[f4,e4];exact acB _,fun k hk hn=>(f5 k (fun h=>hn ⟨g,rfl,h⟩)).trans (e5 k (fun h=>hn ⟨g,rfl,h⟩))⟩,g,c,arr3,rfl,.inr ⟨g,rfl,rfl⟩,f6,hroom,a4,by omega,fun j x hj =>?_⟩
     have hjl:=(ac4.1 hj).1
     simp only[adF,acU,acV]at hjl
     rw[f8,e8]
     by_cases hj1:j<i*5
     ·rw[adh (by rw[acU];omega),acR,if_pos hj1]at hj
      rw[if_neg (by omega),if_neg (by simp;omega)]
      exact a5 j x hj
     ·rw[adi (by rw[acU];omega),acU,adI (by omega)]at hj
      by_cases hj2:j<(i+m)*5
      ·rw[adh (by omega)]at hj
       rw[if_pos (by omega),<- hj];congr 1;omega
      ·rw[adi (by omega)]at hj
       rw[if_neg (by omega),if_pos (by simp;omega),<- hj];congr 1;omega
    ·refine (Vm g.1 g.2 n c i g'.1 g'.2 m c' cs cs' w hin' hm a3 (by omega) hmax hl hl' hcs hvs ho ho').mono fun e w' ⟨he,hw⟩ =>?_
     subst hw
     have hge:=grownCap_ge w (n+m) c 74
     generalize hG:grownCap w (n+m) c 74=G at *
     have hz1:=mc (n+m-i)
     have hz2:=mc (G-(n+m))
     rw[adj]at hz1 hz2
     generalize hR:((cs.take (i*5)).toArray++Builtin.zeroCells kN.cells (n+m-i)++Builtin.zeroCells kN.cells (G-(n+m)))=R
     have hRs:R.size=G*5:=by subst hR;simp only[adO,adP,acU,hz1,hz2];omega
     have hR0:∀j,j<i*5->R[j]? = cs[j]?:=fun j hj=>by
      subst hR
      rw[Array.append_assoc,aef (by simp;omega)]
      simp[acR,hj]
     have hw0:(w.alloc (.cells R 74)).drew.heap[w.heap.size]? = some (.cells R 74 (0,0)):=heap_alloc_new w _
     obtain⟨e1,e2,e3,e4,e5,arr2,e6,e7,e8⟩:=fl w.heap.size cs' (i*5) _ R hw0 (by omega)
     obtain⟨f1,f2,f3,f4,f5,arr3,f6,f7,f8⟩:=fl w.heap.size (cs.drop (i*5)) ((i+m)*5) (((w.alloc (.cells R 74)).drew.setCells w.heap.size (i*5) cs').drew) arr2 e6 (by simp;omega)
     refine⟨_,he,⟨f1.trans e1,f2.trans e2,f3.trans e3,?_,fun k hk hn =>?_⟩,(w.heap.size,0),G,arr3,rfl,.inl (acB _),f6,hge,hG ▸ grownCap_le_maxLen _ _ _ _ (by unfold maxLen;omega),by simp only;omega,fun j x hj =>?_⟩
     ·rw[f4]
      show _<=((w.alloc (.cells R 74)).drew.setCells w.heap.size (i*5) cs').heap.size
      rw[e4]
      show _<=(w.alloc (.cells R 74)).heap.size
      simp
     ·rw[f5 k (by omega)]
      show ((w.alloc (.cells R 74)).drew.setCells w.heap.size (i*5) cs').heap[k]? = _
      rw[e5 k (by omega)]
      exact Below.heap_alloc w _ k hk
     ·have hjl:=(ac4.1 hj).1
      simp only[adF,acU,acV]at hjl
      rw[adq,f8,e8]
      by_cases hj1:j<i*5
      ·rw[adh (by rw[acU];omega),acR,if_pos hj1]at hj
       rw[if_neg (by omega),if_neg (by omega),hR0 j hj1,hj]
      ·rw[adi (by rw[acU];omega),acU,adI (by omega)]at hj
       by_cases hj2:j<(i+m)*5
       ·rw[adh (by omega)]at hj
        rw[if_neg (by omega),if_pos (by omega),<- hj]
       ·rw[adi (by omega)]at hj
        rw[if_pos (by simp;omega),<- hj];congr 1;omega
  ·have hi0:i=0:=by omega
   subst hi0
   refine (xr A 0 0 g'.1 g'.2 m c' [] cs' w hm (acB _) (by omega) (by omega) (by omega) rfl hl' (fun _=>rfl) (fun a ha j v hj=>by simp at hj) hvs ho').mono fun e w' ⟨he,hw⟩ =>?_
   subst hw
   have hge:=grownCap_ge w (0+m) 0 74
   have hzl:=mc (grownCap w (0+m) 0 74-(0+m))
   refine⟨_,he,di.qg ((Below.refl _ w).drew.alloc (by simp) _),(w.heap.size,0),_,_,rfl,.inl (acB _),heap_alloc_new w.drew _,hge,grownCap_le_maxLen _ _ _ _ (by unfold maxLen;omega),?_,fun j x hj =>?_⟩
   ·rw[adj]at hzl
    simp only[adO,adP,List.nil_append,hzl];omega
   ·simp only[aep,List.take_nil,List.drop_nil,List.nil_append,aer]at hj
    have hjl:=(ac4.1 hj).1
    rw[adq,aef (by simpa using hjl)]
    simpa using hj
theorem Xi {α:Type} (E:hY α) (hE:E.size=5):bW Try.prog 70 (YH 74 E (jg (aI .i64) (fQ (aI .i64))) (fun (l:List α) (x:Int×Int)=>UF l x.1 x.2)) where
 callable:=⟨_,Try.func70,by kernel_rfl,by kernel_rfl⟩
 calls lent ds rk out hg:=by
  obtain⟨pre,l,post,a,r,rfl,rfl,hr,rfl,rfl⟩:=L9 hg
  obtain⟨ai,aj⟩:=a
  unfold UF at hr
  split at hr
  rotate_left
  ·cases hr
  rename_i hcond
  obtain⟨hi0,hij,hjn,hlen⟩:=hcond
  simp only at hi0 hij hjn
  cases hr
  intro w M go u0 vs hM hgoM hz hmp hrow hlv hargs
  have hvs:vs = #[.int .i64 ai,.int .i64 aj]:=by
   have h1:vs.size=2:=hargs.size
   have e0:=T0 (hargs.at_ 0 (.int .i64 ai) rfl)
   have e1:=T0 (hargs.at_ 1 (.int .i64 aj) rfl)
   apply Array.ext
   ·simp[h1]
   ·intro k h2 h3
    have:k=0∨k=1:=by omega
    rcases this with rfl|rfl
    ·simpa [acG,adG h2] using e0
    ·simpa [acG,adG h2] using e1
  subst hvs
  simp only
  obtain⟨i,rfl⟩:∃i:Nat,ai=(i:Int):=⟨ai.toNat,by omega⟩
  obtain⟨j,rfl⟩:∃j:Nat,aj=(j:Int):=⟨aj.toNat,by omega⟩
  simp only[Int.toNat_natCast]
  have hijn:i<=j:=by omega
  have hjl:j<=l.length:=by omega
  have hnl:(l.take i++l.drop j).length=i+(l.length-j):=by rw[adF,acU,acV];omega
  have hlE:(ae E l).length=l.length*5:=by rw[bG,hE]
  have henc:ae E (l.take i++l.drop j)=(ae E l).take (i*5)++(ae E l).drop (j*5):=by rw[fh,<- hE,dY,nQ]
  rcases hlv.2 ⟨0,0,[],false,false,false⟩ rfl rfl with⟨g,o',c,N,t,k0,k1,k2,k3,k4,k5⟩|⟨k0,hn0,A,k1⟩
  ·cases k0
   subst k1
   rw[hE]at k2
   obtain⟨cs,h1,h2,h3⟩:=hrow
   simp only[adF,hlE]at h2
   have hN:N=cs.size:=by
    simp only[World.shape?,h1,acK,Prod.mk.injEq]at k5
    exact k5.2.symm
   have hc63:c<=9223372036854775807:=by unfold maxLen at k4;omega
   by_cases heq:i=j
   ·subst heq
    have hsame:l.take i++l.drop i=l:=aeo i l
    rw[hsame]
    refine (JT (some ⟨g.1,o',none⟩) l.length c i w hjl k3 hc63 (fun h=>by cases h)).mono fun e w' ⟨he,hw⟩ =>?_
    subst hw
    refine⟨_,he,⟨rfl,rfl,rfl,acB _,fun k _ _=>rfl⟩,trivial,?_⟩
    by_cases hcc:0<c∨pre.length=0
    ·obtain⟨k6,k7⟩:=k2 hcc
     refine .inl ⟨(g.1,o'),c,cs,rfl,.inr ⟨g,rfl,rfl⟩,h1,k3,k4,by rw[hE];omega,?_,fun k d hk =>?_⟩
     ·simp only;rw[hlE];omega
     ·have hkl:=(ac4.1 hk).1
      have:=h3 (pre.length+k) d (by rw[adi (by omega),adT,adh hkl];exact hk)
      simp only
      rw[k6,acW]
      exact⟨this.1,this.2.less fun b hb=>hb.imp id fun h=>⟨g,rfl,h⟩⟩
    ·have:c=0:=by omega
     subst this
     have hl0:l=[]:=adM (by omega)
     subst hl0
     exact .inr ⟨rfl,rfl,_,rfl⟩
   ·have hlt:i<j:=by omega
    obtain⟨k6,k7⟩:=k2 (.inl (by omega))
    subst k6
    obtain⟨yR,hvals⟩:∃yR:List Value,yR=(List.range (l.length*5)).map fun k=>cs.getD (g.2+(pre.length+k)) undef:=⟨_,rfl⟩
    have hvl:yR.length=l.length*5:=by rw[hvals];simp
    have hvk:∀k,k<l.length*5->yR[k]? = some (cs.getD (g.2+(pre.length+k)) undef):=fun k hk=>by rw[hvals,acy,List.getElem?_range hk];rfl
    have hrel:∀k d,(ae E l)[k]? = some d->aT d=true∧RP w (fun b=>M b∨sF (some g) b) d (cs.getD (g.2+(pre.length+k)) undef):=fun k d hk=>by
     have hkl:=(ac4.1 hk).1
     exact h3 (pre.length+k) d (by rw[adi (by omega),adT,adh hkl];exact hk)
    have hcell:∀k v,yR[k]? = some v->w.cell? ⟨g.1,g.2+pre.length+k,none⟩=some v:=fun k v hk=>by
     have hkl:=(ac4.1 hk).1
     rw[hvk k (by omega)]at hk
     have:=bt h1 (j:=g.2+pre.length+k) (by omega)
     rw[this,acW]
     exact hk
    have hone:∀v∈yR,v.oneCell'=true:=fun v hv=>by
     obtain⟨k,hk⟩:=acX hv
     have hkl:=(ac4.1 hk).1
     rw[hvk k (by omega)]at hk
     obtain⟨p1,p2⟩:=hrel k _ (acO (by omega))
     have:=p2.uW p1
     rwa [Option.some.inj hk]at this
    refine (UH g.1 (g.2+pre.length) l.length c i j yR w hvl hcell (fun k=>by simp[World.frozen?,h1]) hone k3 hc63 hlt hjl).mono fun e w' ⟨he,hw⟩ =>?_
    have hzl:=mc (l.length-(i+(l.length-j)))
    have hdl:(yR.drop (j*5)).length=(l.length-j)*5:=by rw[acV,hvl,Nat.sub_mul]
    obtain⟨e1,e2,e3,e4,e5,arr2,e6,e7,e8⟩:=fl g.1 (yR.drop (j*5)) (g.2+pre.length+i*5) w.drew cs h1 (by omega)
    obtain⟨f1,f2,f3,f4,f5,arr3,f6,f7,f8⟩:=fl g.1 (Builtin.zeroCells kN.cells (l.length-(i+(l.length-j)))).toList (g.2+pre.length+(i+(l.length-j))*5) _ arr2 e6 (by omega)
    rw[<- hw]at f1 f2 f3 f4 f5 f6
    have hbey:di (sF (some g)) w w':=⟨f1.trans e1,f2.trans e2,f3.trans e3,by rw[f4,e4];exact acB _,fun k hk hn=>(f5 k (fun h=>hn ⟨g,rfl,h⟩)).trans (e5 k (fun h=>hn ⟨g,rfl,h⟩))⟩
    refine⟨_,he,hbey,trivial,.inl ⟨(g.1,g.2+pre.length),c,arr3,by rw[hnl],.inr ⟨g,rfl,rfl⟩,f6,by rw[hnl];omega,k4,by rw[hE];simp only;omega,?_,fun k d hk =>?_⟩⟩
    ·simp only;rw[bG,hE,hnl];omega
    ·have hkl:=(ac4.1 hk).1
     rw[bG,hE,hnl]at hkl
     rw[henc]at hk
     have hval:∀k':Nat,(ae E l)[k']? = some d->yR[k']? = arr3[g.2+pre.length+k]?->aT d=true∧RP w' (fun b=>M b∨b=g.1) d (arr3.getD (g.2+pre.length+k) undef):=by
      intro k' hk' hv
      have hkl':=(ac4.1 hk').1
      obtain⟨p1,p2⟩:=hrel k' d hk'
      rw[hvk k' (by omega)]at hv
      refine⟨p1,?_⟩
      rw[acG,<- hv]
      refine p2.keep fun b q1 q2=>⟨acE q1 hbey.size,?_,hbey.block b q1 (fun hn=>q2 (.inr hn))⟩
      rintro (hb|hb)
      ·exact q2 (.inl hb)
      ·exact q2 (.inr ⟨g,rfl,hb⟩)
     simp only
     by_cases hk1:k<i*5
     ·rw[adh (by rw[acU];omega),acR,if_pos hk1]at hk
      refine hval k hk ?_
      rw[f8,if_neg (by omega),e8,if_neg (by omega),hvk k (by omega),acG,acW,adG (show g.2+(pre.length+k)<cs.size by omega)]
      rfl
     ·rw[adi (by rw[acU];omega),acU,adI (by omega),acS]at hk
      refine hval (j*5+(k-i*5)) hk ?_
      rw[f8,if_neg (by omega),e8,if_pos (by omega),acS]
      congr 1;omega
  ·subst k1
   have hl0:l=[]:=adM hn0
   subst hl0
   simp only[List.length_nil]at hjl
   obtain rfl:j=0:=by omega
   obtain rfl:i=0:=by omega
   refine (JT A 0 0 0 w (acB _) (acB _) (by decide) (fun _=>rfl)).mono fun e w' ⟨he,hw⟩ =>?_
   subst hw
   exact⟨_,he,⟨rfl,rfl,rfl,acB _,fun k _ _=>rfl⟩,trivial,.inr ⟨rfl,rfl,_,rfl⟩⟩
end Go.Proofs.Ytchndpjlijbplaa.Am
namespace Go.Proofs.Ytchndpjlijbplaa.P
open Go.RowKit
set_option linter.unusedVariables false
structure al where
 ag:Int
 aa:(List Int)
structure ak where
 aH:al
 aJ:al
structure dk where
 dj:Int
 lG:Int
 bd:ak
structure bR where
 aG:Int
 ax:(List dk)
structure dz where
 ke:Int
 dC:ak
structure aq where
 aP:ak
 bk:(List dz)
def tO (p0:(List Int)):(Int)->Option ((Int)⊕((Int)))
 | s3a =>
  if decide (s3a>0) then
   (P.idx p0 (IntKind.i64.wrap (s3a-1))).bind fun x6 =>
   if (x6==0) then
    some (.inl (IntKind.i64.wrap (s3a-1)))
   else
    some (.inr s3a)
  else
   some (.inr s3a)
def gp (p0:(List Int)):Option ((List Int)) :=
 (aY (tO p0) (p0.length:Int)).bind fun s3ax =>
 (Aq p0 0 s3ax).bind fun x8 =>
 (lS 8 [] x8).bind fun _ =>
 some x8
def fD (p0:Int) (p1:(List Int)):Option (al) :=
 (gp p1).bind fun r1 =>
 if ((r1.length:Int)==0) then
  some (al.mk 0 ([]))
 else
  some (al.mk p0 r1)
def u6:(Int×(List Int))->Option ((Int×(List Int))⊕(((List Int))))
 | (s0b,l4b) =>
  if (s0b != 0) then
   (CA .i64 s0b 1048576).bind fun x17 =>
   if decide (x17<0) then
    (lS 8 l4b [IntKind.i64.wrap (0-x17)]).bind fun x20 =>
    (ym .i64 s0b 1048576).bind fun x22 =>
    some (.inl (x22,x20))
   else
    (lS 8 l4b [x17]).bind fun x24 =>
    (ym .i64 s0b 1048576).bind fun x26 =>
    some (.inl (x26,x24))
  else
   some (.inr l4b)
def tM (p0:Int):Option (al) :=
 if (p0==0) then
  some (al.mk 0 ([]))
 else
  (if decide (p0<0) then
   some (-1)
  else
   some 1).bind fun s3j1 =>
  (aY (u6) (p0,[])).bind fun l4bx =>
  (fD s3j1 l4bx).bind fun r28 =>
  some r28
def nL (p0:al):(Int)->Option ((Int)⊕((Unit)⊕(Bool)))
 | s3a =>
  if decide (s3a<(p0.aa.length:Int)) then
   (P.idx p0.aa s3a).bind fun x7 =>
   if decide (x7<0) then
    some (.inr (.inr false))
   else
    if decide (x7>=1048576) then
     some (.inr (.inr false))
    else
     some (.inl (IntKind.i64.wrap (s3a+1)))
  else
   some (.inr (.inl ()))
def eP (p0:al):Option (Bool) :=
 (aY (nL p0) 0).bind fun q=>match q with
 | (.inl _) =>
  (if decide (p0.ag<(-1)) then
   some true
  else
   if decide (p0.ag>1) then
    some true
   else
    some (!(((p0.aa.length:Int)==0)==(p0.ag==0)))).bind fun s44j2 =>
  if s44j2 then
   some false
  else
   if ((p0.aa.length:Int)==0) then
    some true
   else
    (P.idx p0.aa (IntKind.i64.wrap ((p0.aa.length:Int)-1))).bind fun x13 =>
    some (x13 != 0)
 | (.inr ra) =>
  some ra
def pF (p0:al):Option (al) :=
 (eP p0).bind fun r1 =>
 if (!r1) then
  some (al.mk 0 ([]))
 else
  (fD (IntKind.i64.wrap (0-p0.ag)) p0.aa).bind fun r3 =>
  some r3
def fV (p0:(List Int)) (p1:Int):Option (Int) :=
 if decide (p1<(p0.length:Int)) then
  (P.idx p0 p1).bind fun x2 =>
  some x2
 else
  some 0
def nO (p0:(List Int)) (p1:(List Int)) (s6a:Int):(Int×Int×(List Int))->Option ((Int×Int×(List Int))⊕(((List Int))))
 | (s7e,s8e,l5e) =>
  (if decide (s8e<(p1.length:Int)) then
   some true
  else
   some (decide (s7e>0))).bind fun s29j7 =>
  if s29j7 then
   (P.idx l5e (IntKind.i64.wrap (s6a+s8e))).bind fun x43 =>
   (P.idx p0 s6a).bind fun x44 =>
   (fV p1 s8e).bind fun r45 =>
   (CA .i64 (IntKind.i64.wrap ((IntKind.i64.wrap (x43+(IntKind.i64.wrap (x44*r45))))+s7e)) 1048576).bind fun x46 =>
   (ym .i64 (IntKind.i64.wrap ((IntKind.i64.wrap (x43+(IntKind.i64.wrap (x44*r45))))+s7e)) 1048576).bind fun x49 =>
   some (.inl (x49,IntKind.i64.wrap (s8e+1),(l5e.set (IntKind.i64.wrap (s6a+s8e)).toNat x46)))
  else
   some (.inr l5e)
def nN (p0:(List Int)) (p1:(List Int)):(Int×(List Int))->Option ((Int×(List Int))⊕(((List Int))))
 | (s6a,l5a) =>
  if decide (s6a<(p0.length:Int)) then
   (aY (nO p0 p1 s6a) (0,0,l5a)).bind fun l5ex =>
   some (.inl (IntKind.i64.wrap (s6a+1),l5ex))
  else
   some (.inr l5a)
def kI (p0:(List Int)) (p1:(List Int)):Option ((List Int)) :=
 (D7 8 (IntKind.i64.wrap ((p0.length:Int)+(p1.length:Int))) (IntKind.i64.wrap ((p0.length:Int)+(p1.length:Int))) 0).bind fun x1 =>
 (aY (nN p0 p1) (0,x1)).bind fun l5ax =>
 (gp l5ax).bind fun r52 =>
 some r52
def pG (p0:(List Int)) (p1:(List Int)):(Int)->Option ((Int)⊕((Unit)⊕(Bool)))
 | s5a =>
  if decide (s5a>=0) then
   (fV p0 s5a).bind fun r7 =>
   (fV p1 s5a).bind fun r8 =>
   if (r7 != r8) then
    some (.inr (.inr (decide (r7<r8))))
   else
    some (.inl (IntKind.i64.wrap (s5a-1)))
  else
   some (.inr (.inl ()))
def oL (p0:(List Int)) (p1:(List Int)):Option (Bool) :=
 (aY (pG p0 p1) (IntKind.i64.wrap ((if (p1.length:Int)>(p0.length:Int) then (p1.length:Int) else (p0.length:Int))-1))).bind fun q=>match q with
 | (.inl _) =>
  some false
 | (.inr ra) =>
  some ra
def nM (p0:(List Int)) (p1:(List Int)):(Int×Int×(List Int))->Option ((Int×Int×(List Int))⊕(((List Int))))
 | (s6a,s7a,l5a) =>
  if decide (s7a<(p0.length:Int)) then
   (P.idx p0 s7a).bind fun x11 =>
   (fV p1 s7a).bind fun r12 =>
   if decide ((IntKind.i64.wrap ((IntKind.i64.wrap (x11-r12))-s6a))<0) then
    (lS 8 l5a [IntKind.i64.wrap ((IntKind.i64.wrap ((IntKind.i64.wrap (x11-r12))-s6a))+1048576)]).bind fun x14 =>
    some (.inl (1,IntKind.i64.wrap (s7a+1),x14))
   else
    (lS 8 l5a [IntKind.i64.wrap ((IntKind.i64.wrap (x11-r12))-s6a)]).bind fun x16 =>
    some (.inl (0,IntKind.i64.wrap (s7a+1),x16))
  else
   some (.inr l5a)
def kH (p0:(List Int)) (p1:(List Int)):Option ((List Int)) :=
 (aY (nM p0 p1) (0,0,[])).bind fun l5ax =>
 (gp l5ax).bind fun r18 =>
 some r18
def mT (p1:(List Int)) (r34:(List Int)):(Int×Int)->Option ((Int×Int)⊕((Int)))
 | (s9c,s10c) =>
  if decide ((IntKind.i64.wrap (s10c-s9c))>1) then
   (ym .i64 (IntKind.i64.wrap (s9c+s10c)) 2).bind fun x44 =>
   (kI p1 ([x44])).bind fun r47 =>
   (oL r34 r47).bind fun r48 =>
   if r48 then
    some (.inl (s9c,x44))
   else
    some (.inl (x44,s10c))
  else
   some (.inr s9c)
def pH (p0:(List Int)) (p1:(List Int)):((List Int)×Int×(List Int))->Option (((List Int)×Int×(List Int))⊕(((List Int)×(List Int))))
 | (s7a,s8a,l6a) =>
  if decide (s8a>=0) then
   (P.idx p0 s8a).bind fun x31 =>
   (lS 8 [x31] s7a).bind fun x32 =>
   (gp x32).bind fun r34 =>
   (aY (mT p1 r34) (0,1048576)).bind fun s9cx =>
   (P.idx l6a s8a).bind fun x50 =>
   (gp ([s9cx])).bind fun r53 =>
   (kI p1 r53).bind fun r54 =>
   (kH r34 r54).bind fun r55 =>
   some (.inl (r55,IntKind.i64.wrap (s8a-1),(l6a.set (s8a).toNat s9cx)))
  else
   some (.inr (s7a,l6a))
def mS (p0:(List Int)) (p1:(List Int)):Option ((List Int)×(List Int)) :=
 (D7 8 (p0.length:Int) (p0.length:Int) 0).bind fun x1 =>
 (aY (pH p0 p1) ([],IntKind.i64.wrap ((p0.length:Int)-1),x1)).bind fun q=>match q with
 | (s7ax,l6ax) =>
  (gp l6ax).bind fun r56 =>
  some (r56,s7ax)
def oK:((List Int)×(List Int))->Option (((List Int)×(List Int))⊕(((List Int))))
 | (s6b,s7b) =>
  if decide ((s7b.length:Int)>0) then
   (mS s6b s7b).bind fun r8 =>
   some (.inl (s7b,r8.2))
  else
   some (.inr s6b)
def pE (p0:al) (p1:al):Option (al×Int) :=
 (eP p0).bind fun r1 =>
 (if (!r1) then
  some true
 else
  (eP p1).bind fun r11 =>
  some (!r11)).bind fun s17j1 =>
 if s17j1 then
  some ((al.mk 0 ([])),1)
 else
  (aY (oK) (p0.aa,p1.aa)).bind fun s6bx =>
  (fD 1 s6bx).bind fun r9 =>
  some (r9,0)
def zO (p0:(List Int)) (p1:(List Int)):(Int×Int×(List Int))->Option ((Int×Int×(List Int))⊕(((List Int))))
 | (s6a,s7a,l5a) =>
  (if decide (s7a<(p0.length:Int)) then
   some true
  else
   if decide (s7a<(p1.length:Int)) then
    some true
   else
    some (decide (s6a>0))).bind fun s22j3 =>
  if s22j3 then
   (fV p0 s7a).bind fun r16 =>
   (fV p1 s7a).bind fun r17 =>
   (CA .i64 (IntKind.i64.wrap ((IntKind.i64.wrap (r16+r17))+s6a)) 1048576).bind fun x18 =>
   (lS 8 l5a [x18]).bind fun x20 =>
   (ym .i64 (IntKind.i64.wrap ((IntKind.i64.wrap (r16+r17))+s6a)) 1048576).bind fun x22 =>
   some (.inl (x22,IntKind.i64.wrap (s7a+1),x20))
  else
   some (.inr l5a)
def tN (p0:(List Int)) (p1:(List Int)):Option ((List Int)) :=
 (aY (zO p0 p1) (0,0,[])).bind fun l5ax =>
 (gp l5ax).bind fun r26 =>
 some r26
def mr (p0:al) (p1:al):Option (al×al×Int) :=
 (eP p0).bind fun r1 =>
 (if (!r1) then
  some true
 else
  (eP p1).bind fun r17 =>
  some (!r17)).bind fun s16j1 =>
 if s16j1 then
  some ((al.mk 0 ([])),(al.mk 0 ([])),1)
 else
  if (p1.ag==0) then
   some ((al.mk 0 ([])),(al.mk 0 ([])),15)
  else
   (mS p0.aa p1.aa).bind fun r5 =>
   (if decide ((IntKind.i64.wrap (p0.ag*p1.ag))>=0) then
    some true
   else
    some ((r5.2.length:Int)==0)).bind fun s42j2 =>
   if s42j2 then
    (fD (IntKind.i64.wrap (p0.ag*p1.ag)) r5.1).bind fun r8 =>
    (fD p0.ag r5.2).bind fun r9 =>
    some (r8,r9,0)
   else
    (tN r5.1 ([1])).bind fun r11 =>
    (fD (-1) r11).bind fun r12 =>
    (kH p1.aa r5.2).bind fun r13 =>
    (fD p1.ag r13).bind fun r14 =>
    some (r12,r14,0)
def rR (p0:al) (p1:al):Option (ak×Int) :=
 (eP p0).bind fun r1 =>
 (if (!r1) then
  some true
 else
  (eP p1).bind fun r13 =>
  some (!r13)).bind fun s21j1 =>
 if s21j1 then
  some ((ak.mk (al.mk 0 ([])) (al.mk 0 ([]))),1)
 else
  if (p1.ag==0) then
   some ((ak.mk (al.mk 0 ([])) (al.mk 0 ([]))),15)
  else
   (if decide (p1.ag<0) then
    (pF p0).bind fun r10 =>
    (pF p1).bind fun r11 =>
    some (r10.ag,r10.aa,r11.ag,r11.aa)
   else
    some (p0.ag,p0.aa,p1.ag,p1.aa)).bind fun q=>match q with
   | (r2_0j2,r2_1j2,r3_0j2,r3_1j2) =>
    (pE (al.mk r2_0j2 r2_1j2) (al.mk r3_0j2 r3_1j2)).bind fun r6 =>
    (mr (al.mk r2_0j2 r2_1j2) r6.1).bind fun r7 =>
    (mr (al.mk r3_0j2 r3_1j2) r6.1).bind fun r8 =>
    some ((ak.mk r7.1 r8.1),0)
def tP (p0:Int) (p1:Int):Option (ak×Int) :=
 (tM p0).bind fun r1 =>
 (tM p1).bind fun r2 =>
 (rR r1 r2).bind fun r3 =>
 some (r3.1,r3.2)
def jO (p0:Int) (p1:Int) (p2:Int) (p3:Int):Option (dk) :=
 (tP p2 p3).bind fun r1 =>
 some (dk.mk p0 p1 r1.1)
def nP (p0:Int):Option (ak) :=
 (tP p0 1).bind fun r1 =>
 some r1.1
def zx (p0:(List Int)):(Int×(List ak))->Option ((Int×(List ak))⊕(((List ak))))
 | (s4a,l3a) =>
  if decide (s4a<(p0.length:Int)) then
   (P.idx p0 s4a).bind fun x8 =>
   (nP x8).bind fun r9 =>
   (lS 64 l3a [r9]).bind fun x10 =>
   some (.inl (IntKind.i64.wrap (s4a+1),x10))
  else
   some (.inr l3a)
def jN (p0:(List Int)):Option ((List ak)) :=
 (aY (zx p0) (0,[])).bind fun l3ax =>
 some l3ax
def fA (p0:Int) (p1:Int) (p2:Int):Option (Bool) :=
 if decide (p0>=p1) then
  some (decide (p0<=p2))
 else
  some false
def nn (p0:al):(Int)->Option ((Int)⊕((Unit)⊕(Bool)))
 | s12a =>
  if decide (s12a<(p0.aa.length:Int)) then
   (P.idx p0.aa s12a).bind fun x7 =>
   if decide (x7<0) then
    some (.inr (.inr false))
   else
    if decide (x7>1048575) then
     some (.inr (.inr false))
    else
     some (.inl (IntKind.i64.wrap (s12a+1)))
  else
   some (.inr (.inl ()))
def cn (p0:al):Option (Bool) :=
 (aY (nn p0) 0).bind fun q=>match q with
 | (.inl _) =>
  if ((p0.aa.length:Int)==0) then
   some (p0.ag==0)
  else
   if (p0.ag==1) then
    (P.idx p0.aa (IntKind.i64.wrap ((p0.aa.length:Int)-1))).bind fun x12 =>
    some (x12 != 0)
   else
    if (p0.ag==(-1)) then
     (P.idx p0.aa (IntKind.i64.wrap ((p0.aa.length:Int)-1))).bind fun x14 =>
     some (x14 != 0)
    else
     some false
 | (.inr ra) =>
  some ra
def dH (p0:Bool) (p1:al):Option (al×Int) :=
 if (!p0) then
  some ((al.mk 0 ([])),1)
 else
  some (p1,0)
def cB (p0:(List Int)):Option (List Int):=lS 8 [] p0
def lT (p0:Int):Option (Bool) :=
 some (p0 != p0)
def ee (p0:Int) (p1:Int):Option (Int) :=
 (lT p0).bind fun r1 =>
 (lT p1).bind fun r2 =>
 if r1 then
  if r2 then
   some 0
  else
   some (-1)
 else
  if r2 then
   some 1
  else
   if decide (p0<p1) then
    some (-1)
   else
    if decide (p0>p1) then
     some 1
    else
     some 0
def kU (p0:(List Int)) (p1:(List Int)):(Int)->Option ((Int)⊕((Unit)⊕(Int)))
 | s5a =>
  if decide (s5a>=0) then
   (P.idx p0 s5a).bind fun x10 =>
   (P.idx p1 s5a).bind fun x11 =>
   if (x10 != x11) then
    (ee x10 x11).bind fun r13 =>
    some (.inr (.inr r13))
   else
    some (.inl (IntKind.i64.wrap (s5a-1)))
  else
   some (.inr (.inl ()))
def eD (p0:(List Int)) (p1:(List Int)):Option (Int) :=
 if ((p0.length:Int) != (p1.length:Int)) then
  (ee (p0.length:Int) (p1.length:Int)).bind fun r2 =>
  some r2
 else
  (aY (kU p0 p1) (IntKind.i64.wrap ((p0.length:Int)-1))).bind fun q=>match q with
  | (.inl _) =>
   some 0
  | (.inr ra) =>
   some ra
def kx (p0:(List Int)):(Int)->Option ((Int)⊕((Int)))
 | s3a =>
  if decide (s3a>0) then
   (P.idx p0 (IntKind.i64.wrap (s3a-1))).bind fun x6 =>
   if (x6==0) then
    some (.inl (IntKind.i64.wrap (s3a-1)))
   else
    some (.inr s3a)
  else
   some (.inr s3a)
def dp (p0:(List Int)):Option ((List Int)) :=
 (aY (kx p0) (p0.length:Int)).bind fun s3ax =>
 (Aq p0 0 s3ax).bind fun x8 =>
 some x8
def ns (p0:(List Int)) (p1:Int):(Int×Int×(List Int))->Option ((Int×Int×(List Int))⊕((Int×(List Int))))
 | (s7a,s8a,l6a) =>
  if decide (s8a>=0) then
   (Ee .i64 s7a 20).bind fun x15 =>
   (P.idx p0 s8a).bind fun x17 =>
   (ym .i64 (jK .or .i64 x15 x17) p1).bind fun x18 =>
   (P.idx l6a s8a).bind fun x20 =>
   (CA .i64 (jK .or .i64 x15 x17) p1).bind fun x22 =>
   some (.inl (x22,IntKind.i64.wrap (s8a-1),(l6a.set (s8a).toNat x18)))
  else
   some (.inr (s7a,l6a))
def kv (p0:(List Int)) (p1:Int):Option ((List Int)×Int) :=
 (D7 8 (p0.length:Int) (p0.length:Int) 0).bind fun x1 =>
 (aY (ns p0 p1) (0,IntKind.i64.wrap ((p0.length:Int)-1),x1)).bind fun q=>match q with
 | (s7ax,l6ax) =>
  (dp l6ax).bind fun r24 =>
  some (r24,s7ax)
def qS (p1:(List Int)) (s20a:Int) (x22:Int):(Int×Int×(List Int))->Option ((Int×Int×(List Int))⊕((Int×(List Int))))
 | (s8c,s27c,l5c) =>
  if decide (s27c<(p1.length:Int)) then
   (P.idx p1 s27c).bind fun x31 =>
   (P.idx l5c (IntKind.i64.wrap (s20a+s27c))).bind fun x32 =>
   (wK .i64 (IntKind.i64.wrap ((IntKind.i64.wrap (x32+(IntKind.i64.wrap (x22*x31))))+s8c)) 20).bind fun x33 =>
   some (.inl (x33,IntKind.i64.wrap (s27c+1),(l5c.set (IntKind.i64.wrap (s20a+s27c)).toNat (jK .and .i64 (IntKind.i64.wrap ((IntKind.i64.wrap (x32+(IntKind.i64.wrap (x22*x31))))+s8c)) 1048575))))
  else
   some (.inr (s8c,l5c))
def qQ (p0:(List Int)) (p1:(List Int)):(Int×(List Int))->Option ((Int×(List Int))⊕(((List Int))))
 | (s20a,l5a) =>
  if decide (s20a<(p0.length:Int)) then
   (P.idx p0 s20a).bind fun x22 =>
   (aY (qS p1 s20a x22) (0,0,l5a)).bind fun q=>match q with
   | (s8cx,l5cx) =>
    (P.idx l5cx (IntKind.i64.wrap (s20a+(p1.length:Int)))).bind fun x36 =>
    some (.inl (IntKind.i64.wrap (s20a+1),(l5cx.set (IntKind.i64.wrap (s20a+(p1.length:Int))).toNat (IntKind.i64.wrap (x36+s8cx)))))
  else
   some (.inr l5a)
def np (p0:(List Int)) (p1:(List Int)):Option ((List Int)) :=
 (D7 8 (IntKind.i64.wrap ((p0.length:Int)+(p1.length:Int))) (IntKind.i64.wrap ((p0.length:Int)+(p1.length:Int))) 0).bind fun x1 =>
 (aY (qQ p0 p1) (0,x1)).bind fun l5ax =>
 (dp l5ax).bind fun r39 =>
 some r39
def jY (p0:(List Int)) (p1:(List Int)) (p2:Int):(Int×Int×(List Int))->Option ((Int×Int×(List Int))⊕((Int×(List Int))))
 | (s7a,s14a,l0a) =>
  if decide (s14a<((p0).length:Int)) then
   (P.idx l0a s14a).bind fun x11 =>
   (if decide (s14a<(p1.length:Int)) then
    (P.idx p1 s14a).bind fun x17 =>
    some (IntKind.i64.wrap ((IntKind.i64.wrap (x11-s7a))-(IntKind.i64.wrap (p2*x17))))
   else
    some (IntKind.i64.wrap (x11-s7a))).bind fun s9j3 =>
   (wK .i64 s9j3 20).bind fun x14 =>
   some (.inl (IntKind.i64.wrap (0-x14),IntKind.i64.wrap (s14a+1),(l0a.set (s14a).toNat (jK .and .i64 s9j3 1048575))))
  else
   some (.inr (s7a,l0a))
def jZ (p1:(List Int)) (l0ax:(List Int)):(Int×Int×(List Int))->Option ((Int×Int×(List Int))⊕(((List Int))))
 | (s10d,s49d,l0d) =>
  if decide (s49d<((l0ax).length:Int)) then
   (P.idx l0d s49d).bind fun x29 =>
   (if decide (s49d<(p1.length:Int)) then
    (P.idx p1 s49d).bind fun x35 =>
    some (IntKind.i64.wrap ((IntKind.i64.wrap (s10d+x29))+x35))
   else
    some (IntKind.i64.wrap (s10d+x29))).bind fun s10j6 =>
   (wK .i64 s10j6 20).bind fun x32 =>
   some (.inl (x32,IntKind.i64.wrap (s49d+1),(l0d.set (s49d).toNat (jK .and .i64 s10j6 1048575))))
  else
   some (.inr l0d)
def n9 (p0:(List Int)) (p1:(List Int)) (p2:Int):Option ((List Int)×(Int)) :=
 (aY (jY p0 p1 p2) (0,0,p0)).bind fun q=>match q with
 | (s7ax,l0ax) =>
  if (s7ax==0) then
   some (l0ax,p2)
  else
   (aY (jZ p1 l0ax) (0,0,l0ax)).bind fun l0dx =>
   some (l0dx,IntKind.i64.wrap (p2-1))
def eZ (p0:(List Int)) (p1:(List Int)) (p2:Int):Option ((List Int)×(Int)):=(n9 p0 p1 p2).bind fun r=>if r.1.length=p0.length then some r else none
theorem yy {p0:(List Int)} {p1:(List Int)} {p2:Int} {r:(List Int)×(Int)} (h:eZ p0 p1 p2=some r):r.1.length=p0.length:=by
 unfold eZ at h
 obtain⟨q,hq,h⟩:=ah h
 split at h
 ·cases h;assumption
 ·cases h
def qN (p1:(List Int)):(Int)->Option ((Int)⊕((Int)))
 | s8a =>
  (P.idx p1 (IntKind.i64.wrap ((p1.length:Int)-1))).bind fun x12 =>
  if decide ((IntKind.i64.wrap (x12*s8a))<524288) then
   some (.inl (IntKind.i64.wrap (s8a*2)))
  else
   some (.inr s8a)
def qP (r19:(List Int)) (s13c:Int) (l9c:(List Int)) (x64:Int):(Int×Int)->Option ((Int×Int)⊕((Int)))
 | (s15g,s16g) =>
  (if decide (s15g>=1048576) then
   some true
  else
   if decide (s16g<1048576) then
    (P.idx r19 (IntKind.i64.wrap (((r19).length:Int)-2))).bind fun x83 =>
    (Ee .i64 s16g 20).bind fun x84 =>
    (P.idx l9c (IntKind.i64.wrap ((IntKind.i64.wrap (s13c+((r19).length:Int)))-2))).bind fun x86 =>
    some (decide ((IntKind.i64.wrap (s15g*x83))>(jK .or .i64 x84 x86)))
   else
    some false).bind fun s137j9 =>
  if s137j9 then
   some (.inl (IntKind.i64.wrap (s15g-1),IntKind.i64.wrap (s16g+x64)))
  else
   some (.inr s15g)
def qO (r19:(List Int)):(Int×(List Int)×(List Int))->Option ((Int×(List Int)×(List Int))⊕(((List Int)×(List Int))))
 | (s13c,l9c,l12c) =>
  if decide (s13c>=0) then
   (P.idx l9c (IntKind.i64.wrap (s13c+((r19).length:Int)))).bind fun x60 =>
   (Ee .i64 x60 20).bind fun x61 =>
   (P.idx l9c (IntKind.i64.wrap ((IntKind.i64.wrap (s13c+((r19).length:Int)))-1))).bind fun x63 =>
   (P.idx r19 (IntKind.i64.wrap (((r19).length:Int)-1))).bind fun x64 =>
   (ym .i64 (jK .or .i64 x61 x63) x64).bind fun x65 =>
   (CA .i64 (jK .or .i64 x61 x63) x64).bind fun x67 =>
   (aY (qP r19 s13c l9c x64) (x65,x67)).bind fun s15gx =>
   (Aq l9c s13c (IntKind.i64.wrap ((IntKind.i64.wrap (s13c+((r19).length:Int)))+1))).bind fun x87 =>
   (eZ x87 r19 s15gx).bind fun r90 =>
   (P.idx l12c s13c).bind fun x92 =>
   some (.inl (IntKind.i64.wrap (s13c-1),(l9c.take (s13c).toNat++(r90.1++l9c.drop (IntKind.i64.wrap ((IntKind.i64.wrap (s13c+((r19).length:Int)))+1)).toNat)),(l12c.set (s13c).toNat r90.2)))
  else
   some (.inr (l9c,l12c))
def oW (p0:(List Int)) (p1:(List Int)):Option ((List Int)×(List Int)) :=
 (eD p0 p1).bind fun r1 =>
 if decide (r1<0) then
  (cB p0).bind fun r3 =>
  some ([],r3)
 else
  if ((p1.length:Int)==1) then
   (P.idx p1 0).bind fun x5 =>
   (kv p0 x5).bind fun r6 =>
   (dp ([r6.2])).bind fun r8 =>
   some (r6.1,r8)
  else
   (aY (qN p1) 1).bind fun s8ax =>
   (np p0 ([s8ax])).bind fun r15 =>
   (lS 8 r15 [0]).bind fun x16 =>
   (np p1 ([s8ax])).bind fun r19 =>
   (if (((x16).length:Int)==(p0.length:Int)) then
    (lS 8 x16 [0]).bind fun x98 =>
    some x98
   else
    some x16).bind fun l9j2 =>
   (D7 8 (IntKind.i64.wrap (((l9j2).length:Int)-((r19).length:Int))) (IntKind.i64.wrap (((l9j2).length:Int)-((r19).length:Int))) 0).bind fun x21 =>
   (aY (qO r19) (IntKind.i64.wrap (((x21).length:Int)-1),l9j2,x21)).bind fun q=>match q with
   | (l9cx,l12cx) =>
    (dp l9cx).bind fun r94 =>
    (kv r94 s8ax).bind fun r95 =>
    (dp l12cx).bind fun r96 =>
    some (r96,r95.1)
def cp (p0:Int) (p1:(List Int)):Option (al) :=
 (dp p1).bind fun r1 =>
 if ((r1.length:Int)==0) then
  some (al.mk 0 ([]))
 else
  some (al.mk p0 r1)
def n7:((List Int)×(List Int))->Option (((List Int)×(List Int))⊕(((List Int))))
 | (s6b,s7b) =>
  if decide ((s7b.length:Int)>0) then
   (oW s6b s7b).bind fun r11 =>
   some (.inl (s7b,r11.2))
  else
   some (.inr s6b)
def nk (p0:al) (p1:al):Option (al×Int) :=
 (cn p0).bind fun r1 =>
 (if (!r1) then
  some true
 else
  (cn p1).bind fun r16 =>
  some (!r16)).bind fun s17j1 =>
 if s17j1 then
  (dH false (al.mk 0 ([]))).bind fun r5 =>
  some (r5.1,r5.2)
 else
  (cB p0.aa).bind fun r6 =>
  (aY (n7) (r6,p1.aa)).bind fun s6bx =>
  (cB s6bx).bind fun r12 =>
  (cp 1 r12).bind fun r13 =>
  (dH true r13).bind fun r14 =>
  some (r14.1,r14.2)
def qL (p0:al):(Int×Int)->Option ((Int×Int)⊕((Int)⊕(Int×Bool)))
 | (s4b,s19b) =>
  if decide (s19b<(p0.aa.length:Int)) then
   (P.idx p0.aa s19b).bind fun x13 =>
   (if (s19b==3) then
    some (decide (x13>8))
   else
    some false).bind fun s29j4 =>
   if s29j4 then
    some (.inr (.inr (0,false)))
   else
    (Ee .u64 (IntKind.u64.wrap x13) (IntKind.i64.wrap (20*s19b))).bind fun x16 =>
    some (.inl (jK .or .u64 s4b x16,IntKind.i64.wrap (s19b+1)))
  else
   some (.inr (.inl s4b))
def qK (p0:al):Option (Int×Bool) :=
 (cn p0).bind fun r1 =>
 (if (!r1) then
  some true
 else
  some (decide ((p0.aa.length:Int)>4))).bind fun s15j1 =>
 if s15j1 then
  some (0,false)
 else
  (aY (qL p0) (0,0)).bind fun q=>match q with
  | (.inl s4bx) =>
   (if decide (p0.ag<0) then
    some (decide (s4bx<=9223372036854775808))
   else
    some false).bind fun s38j5 =>
   if s38j5 then
    some (IntKind.i64.wrap (IntKind.u64.wrap (0-s4bx)),true)
   else
    if decide (p0.ag>=0) then
     if decide (s4bx<9223372036854775808) then
      some (IntKind.i64.wrap s4bx,true)
     else
      some (0,false)
    else
     some (0,false)
  | (.inr rb) =>
   some rb
def ow (p0:al):Option (Bool) :=
 (qK p0).bind fun r1 =>
 if r1.2 then
  some (r1.1==1)
 else
  some false
def ca (p0:ak):Option (Bool) :=
 (cn p0.aH).bind fun r1 =>
 (if (!r1) then
  some true
 else
  (cn p0.aJ).bind fun r8 =>
  if (!r8) then
   some true
  else
   some (p0.aJ.ag != 1)).bind fun s20j1 =>
 if s20j1 then
  some false
 else
  (nk p0.aH p0.aJ).bind fun r4 =>
  if (r4.2==0) then
   (ow r4.1).bind fun r6 =>
   some r6
  else
   some false
def iz (p0:ak):Option (Int) :=
 (ca p0).bind fun r1 =>
 if (!r1) then
  some 0
 else
  some p0.aH.ag
def uv (p0:(List Int)):(Int)->Option ((Int)⊕((Unit)⊕(Int)))
 | s8a =>
  if decide (s8a<(p0.length:Int)) then
   (P.idx p0 s8a).bind fun x6 =>
   if (x6 != 0) then
    some (.inr (.inr x6))
   else
    some (.inl (IntKind.i64.wrap (s8a+1)))
  else
   some (.inr (.inl ()))
def s6 (p0:(List Int)):Option (Int) :=
 (aY (uv p0) 0).bind fun q=>match q with
 | (.inl _) =>
  some 0
 | (.inr ra) =>
  some ra
def ki (p0:dk) (p1:dk):Option (Int) :=
 (ee p0.dj p1.dj).bind fun r1 =>
 (ee p0.lG p1.lG).bind fun r2 =>
 (s6 ([r1,r2])).bind fun r4 =>
 some r4
def uq:(Int×(List Int))->Option ((Int×(List Int))⊕(((List Int))))
 | (s4b,l5b) =>
  if decide (s4b>0) then
   (lS 8 l5b [IntKind.i64.wrap (jK .and .u64 s4b 1048575)]).bind fun x9 =>
   (wK .u64 s4b 20).bind fun x11 =>
   some (.inl (x11,x9))
  else
   some (.inr l5b)
def sV (p0:Int):Option (al) :=
 (if decide (p0<0) then
  some ((-1),IntKind.u64.wrap (0-(IntKind.u64.wrap p0)))
 else
  some (1,IntKind.u64.wrap p0)).bind fun q=>match q with
 | (s3j1,s4j1) =>
  (aY (uq) (s4j1,[])).bind fun l5bx =>
  (cp s3j1 l5bx).bind fun r13 =>
  some r13
def gK (p0:Int):Option (ak) :=
 (sV p0).bind fun r1 =>
 (sV 1).bind fun r2 =>
 some (ak.mk r1 r2)
def mg (p0:al):Option (al) :=
 (cn p0).bind fun r1 =>
 if (!r1) then
  some (al.mk 0 ([]))
 else
  (cB p0.aa).bind fun r3 =>
  (cp (IntKind.i64.wrap (0-p0.ag)) r3).bind fun r4 =>
  some r4
def qM (p0:al) (p1:al):Option (al×Int) :=
 (cn p0).bind fun r1 =>
 (if (!r1) then
  some true
 else
  (cn p1).bind fun r10 =>
  some (!r10)).bind fun s13j1 =>
 if s13j1 then
  (dH false (al.mk 0 ([]))).bind fun r5 =>
  some (r5.1,r5.2)
 else
  (np p0.aa p1.aa).bind fun r6 =>
  (cp (IntKind.i64.wrap (p0.ag*p1.ag)) r6).bind fun r7 =>
  (dH true r7).bind fun r8 =>
  some (r8.1,r8.2)
def bV (p0:al) (p1:al):Option (al) :=
 (qM p0 p1).bind fun r1 =>
 some r1.1
def n8 (s0j1:(List Int)) (s1j1:(List Int)):(Int×Int×(List Int))->Option ((Int×Int×(List Int))⊕((Int×(List Int))))
 | (s6b,s22b,l5b) =>
  if decide (s22b<(s0j1.length:Int)) then
   (P.idx s0j1 s22b).bind fun x15 =>
   (if decide (s22b<(s1j1.length:Int)) then
    (P.idx s1j1 s22b).bind fun x22 =>
    some (IntKind.i64.wrap ((IntKind.i64.wrap (s6b+x15))+x22))
   else
    some (IntKind.i64.wrap (s6b+x15))).bind fun s6j4 =>
   (P.idx l5b s22b).bind fun x17 =>
   (wK .i64 s6j4 20).bind fun x19 =>
   some (.inl (x19,IntKind.i64.wrap (s22b+1),(l5b.set (s22b).toNat (jK .and .i64 s6j4 1048575))))
  else
   some (.inr (s6b,l5b))
def oV (p0:(List Int)) (p1:(List Int)):Option ((List Int)) :=
 (if decide ((p0.length:Int)<(p1.length:Int)) then
  some (p1,p0)
 else
  some (p0,p1)).bind fun q=>match q with
 | (s0j1,s1j1) =>
  (D7 8 (IntKind.i64.wrap ((s0j1.length:Int)+1)) (IntKind.i64.wrap ((s0j1.length:Int)+1)) 0).bind fun x2 =>
  (aY (n8 s0j1 s1j1) (0,0,x2)).bind fun q=>match q with
  | (s6bx,l5bx) =>
   (P.idx l5bx (s0j1.length:Int)).bind fun x23 =>
   (dp (l5bx.set ((s0j1.length:Int)).toNat s6bx)).bind fun r26 =>
   some r26
def qT (p1:(List Int)) (r1:(List Int)):(Int×Int×(List Int))->Option ((Int×Int×(List Int))⊕(((List Int))))
 | (s6a,s13a,l5a) =>
  if decide (s13a<((r1).length:Int)) then
   (P.idx l5a s13a).bind fun x12 =>
   (if decide (s13a<(p1.length:Int)) then
    (P.idx p1 s13a).bind fun x18 =>
    some (IntKind.i64.wrap ((IntKind.i64.wrap (x12-s6a))-x18))
   else
    some (IntKind.i64.wrap (x12-s6a))).bind fun s8j3 =>
   (wK .i64 s8j3 20).bind fun x14 =>
   some (.inl (jK .and .i64 x14 1,IntKind.i64.wrap (s13a+1),(l5a.set (s13a).toNat (jK .and .i64 s8j3 1048575))))
  else
   some (.inr l5a)
def nt (p0:(List Int)) (p1:(List Int)):Option ((List Int)) :=
 (cB p0).bind fun r1 =>
 (aY (qT p1 r1) (0,0,r1)).bind fun l5ax =>
 (dp l5ax).bind fun r19 =>
 some r19
def qJ (p0:al) (p1:al):Option (al×Int) :=
 (cn p0).bind fun r1 =>
 (if (!r1) then
  some true
 else
  (cn p1).bind fun r21 =>
  some (!r21)).bind fun s13j1 =>
 if s13j1 then
  (dH false (al.mk 0 ([]))).bind fun r5 =>
  some (r5.1,r5.2)
 else
  if decide ((IntKind.i64.wrap (p0.ag*p1.ag))>=0) then
   (s6 ([p0.ag,p1.ag])).bind fun r8 =>
   (oV p0.aa p1.aa).bind fun r9 =>
   (cp r8 r9).bind fun r10 =>
   (dH true r10).bind fun r11 =>
   some (r11.1,r11.2)
  else
   (eD p0.aa p1.aa).bind fun r12 =>
   if decide (r12<0) then
    (nt p1.aa p0.aa).bind fun r14 =>
    (cp p1.ag r14).bind fun r15 =>
    (dH true r15).bind fun r16 =>
    some (r16.1,r16.2)
   else
    (nt p0.aa p1.aa).bind fun r17 =>
    (cp p0.ag r17).bind fun r18 =>
    (dH true r18).bind fun r19 =>
    some (r19.1,r19.2)
def mf (p0:al) (p1:al):Option (al×al×Int) :=
 (cn p0).bind fun r1 =>
 (if (!r1) then
  some true
 else
  (cn p1).bind fun r17 =>
  some (!r17)).bind fun s9j1 =>
 if s9j1 then
  some ((al.mk 0 ([])),(al.mk 0 ([])),1)
 else
  if (p1.ag==0) then
   some ((al.mk 0 ([])),(al.mk 0 ([])),15)
  else
   (oW p0.aa p1.aa).bind fun r5 =>
   (if decide ((IntKind.i64.wrap (p0.ag*p1.ag))<0) then
    some (decide ((r5.2.length:Int)>0))
   else
    some false).bind fun s44j2 =>
   if s44j2 then
    (oV r5.1 ([1])).bind fun r9 =>
    (cp (-1) r9).bind fun r10 =>
    (nt p1.aa r5.2).bind fun r11 =>
    (cp p1.ag r11).bind fun r12 =>
    some (r10,r12,0)
   else
    (cp (IntKind.i64.wrap (p0.ag*p1.ag)) r5.1).bind fun r13 =>
    (cp p0.ag r5.2).bind fun r14 =>
    some (r13,r14,0)
def lf (p0:al) (p1:al):Option (ak×Int) :=
 (cn p0).bind fun r1 =>
 (if (!r1) then
  some true
 else
  (cn p1).bind fun r13 =>
  some (!r13)).bind fun s14j1 =>
 if s14j1 then
  some ((ak.mk (al.mk 0 ([])) (al.mk 0 ([]))),1)
 else
  if (p1.ag==0) then
   some ((ak.mk (al.mk 0 ([])) (al.mk 0 ([]))),15)
  else
   (if decide (p1.ag<0) then
    (mg p0).bind fun r10 =>
    (mg p1).bind fun r11 =>
    some (r10.ag,r10.aa,r11.ag,r11.aa)
   else
    some (p0.ag,p0.aa,p1.ag,p1.aa)).bind fun q=>match q with
   | (r2_0j2,r2_1j2,r3_0j2,r3_1j2) =>
    (nk (al.mk r2_0j2 r2_1j2) (al.mk r3_0j2 r3_1j2)).bind fun r6 =>
    (mf (al.mk r2_0j2 r2_1j2) r6.1).bind fun r7 =>
    (mf (al.mk r3_0j2 r3_1j2) r6.1).bind fun r8 =>
    some ((ak.mk r7.1 r8.1),0)
def jL (p0:ak) (p1:ak):Option (ak×Int) :=
 (ca p0).bind fun r1 =>
 (if (!r1) then
  some true
 else
  (ca p1).bind fun r10 =>
  some (!r10)).bind fun s15j1 =>
 if s15j1 then
  some ((ak.mk (al.mk 0 ([])) (al.mk 0 ([]))),1)
 else
  (bV p0.aH p1.aJ).bind fun r4 =>
  (bV p1.aH p0.aJ).bind fun r5 =>
  (qJ r4 r5).bind fun r6 =>
  (bV p0.aJ p1.aJ).bind fun r7 =>
  (lf r6.1 r7).bind fun r8 =>
  some (r8.1,r8.2)
def mG (p0:ak) (p1:ak):Option (ak×Int) :=
 (ca p0).bind fun r1 =>
 (if (!r1) then
  some true
 else
  (ca p1).bind fun r7 =>
  some (!r7)).bind fun s13j1 =>
 if s13j1 then
  some ((ak.mk (al.mk 0 ([])) (al.mk 0 ([]))),1)
 else
  (mg p1.aH).bind fun r4 =>
  (jL p0 (ak.mk r4 p1.aJ)).bind fun r5 =>
  some (r5.1,r5.2)
def lq (x1:(List ak)):(Int×(List ak))->Option ((Int×(List ak))⊕(((List ak))))
 | (s12a,l3a) =>
  if decide (s12a<((x1).length:Int)) then
   (gK 1).bind fun r9 =>
   (P.idx l3a s12a).bind fun x10 =>
   some (.inl (IntKind.i64.wrap (s12a+1),(l3a.set (s12a).toNat r9)))
  else
   some (.inr l3a)
def lr (p0:bR):(Int×(List ak))->Option ((Int×(List ak))⊕(((List ak))))
 | (s23b,l3b) =>
  if decide (s23b<(p0.ax.length:Int)) then
   (P.idx p0.ax s23b).bind fun x19 =>
   (P.idx l3b x19.dj).bind fun x20 =>
   (mG x20 x19.bd).bind fun r21 =>
   some (.inl (IntKind.i64.wrap (s23b+1),(l3b.set (x19.dj).toNat r21.1)))
  else
   some (.inr l3b)
def jw (p0:bR):Option ((List ak)) :=
 (D7 64 p0.aG p0.aG (ak.mk (al.mk 0 ([])) (al.mk 0 ([])))).bind fun x1 =>
 (aY (lq x1) (0,x1)).bind fun l3ax =>
 (aY (lr p0) (0,l3ax)).bind fun l3bx =>
 some l3bx
def kC (p0:ak):Option (Bool) :=
 (iz p0).bind fun r1 =>
 some (decide (r1<0))
def cW (p0:(List ak)):(Int)->Option ((Int)⊕((Unit)⊕(Int)))
 | s8a =>
  if decide (s8a<(p0.length:Int)) then
   (P.idx p0 s8a).bind fun x7 =>
   (kC x7).bind fun r8 =>
   if r8 then
    some (.inr (.inr s8a))
   else
    some (.inl (IntKind.i64.wrap (s8a+1)))
  else
   some (.inr (.inl ()))
def bX (p0:(List ak)):Option (Int) :=
 (aY (cW p0) 0).bind fun q=>match q with
 | (.inl _) =>
  some (-1)
 | (.inr ra) =>
  some ra
def bs (p0:(List ak)):Option (Bool) :=
 (bX p0).bind fun r1 =>
 some (decide (r1>=0))
def lp (p0:bR):(Int)->Option ((Int)⊕((Unit)⊕(Bool)))
 | s18b =>
  if decide (s18b<(p0.ax.length:Int)) then
   (P.idx p0.ax s18b).bind fun x21 =>
   (fA x21.dj 0 (IntKind.i64.wrap (p0.aG-1))).bind fun r22 =>
   (if (!r22) then
    some true
   else
    (fA x21.lG 0 (IntKind.i64.wrap (p0.aG-1))).bind fun r30 =>
    if (!r30) then
     some true
    else
     (ca x21.bd).bind fun r32 =>
     if (!r32) then
      some true
     else
      (iz x21.bd).bind fun r34 =>
      some (decide (r34<=0))).bind fun s50j4 =>
   if s50j4 then
    some (.inr (.inr false))
   else
    if decide (s18b>0) then
     (P.idx p0.ax (IntKind.i64.wrap (s18b-1))).bind fun x26 =>
     (ki x26 x21).bind fun r27 =>
     if decide (r27>=0) then
      some (.inr (.inr false))
     else
      some (.inl (IntKind.i64.wrap (s18b+1)))
    else
     some (.inl (IntKind.i64.wrap (s18b+1)))
  else
   some (.inr (.inl ()))
def iA (p0:bR):Option (Bool) :=
 (fA p0.aG 0 2000).bind fun r1 =>
 (if (!r1) then
  some true
 else
  some (decide ((p0.ax.length:Int)>8000))).bind fun s14j1 =>
 if s14j1 then
  some false
 else
  (aY (lp p0) 0).bind fun q=>match q with
  | (.inl _) =>
   (jw p0).bind fun r35 =>
   (bs r35).bind fun r36 =>
   some (!r36)
  | (.inr rb) =>
   some rb
def fW (p0:ak):Option (Bool) :=
 (ca p0).bind fun r1 =>
 some (!r1)
def cu (p0:(List ak)):(Int)->Option ((Int)⊕((Unit)⊕(Int)))
 | s8a =>
  if decide (s8a<(p0.length:Int)) then
   (P.idx p0 s8a).bind fun x7 =>
   (fW x7).bind fun r8 =>
   if r8 then
    some (.inr (.inr s8a))
   else
    some (.inl (IntKind.i64.wrap (s8a+1)))
  else
   some (.inr (.inl ()))
def bK (p0:(List ak)):Option (Int) :=
 (aY (cu p0) 0).bind fun q=>match q with
 | (.inl _) =>
  some (-1)
 | (.inr ra) =>
  some ra
def bu (p0:(List ak)):Option (Bool) :=
 (bK p0).bind fun r1 =>
 some (decide (r1>=0))
def eA (p0:(List ak)) (p1:Int):Option (Bool) :=
 if ((p0.length:Int)==p1) then
  (bu p0).bind fun r2 =>
  some (!r2)
 else
  some false
def js (p0:bR):(Int×(List (List Int)))->Option ((Int×(List (List Int)))⊕(((List (List Int)))))
 | (s22a,l18a) =>
  if decide (s22a<(p0.ax.length:Int)) then
   (P.idx p0.ax s22a).bind fun x13 =>
   (P.idx l18a x13.lG).bind fun x14 =>
   (lS 8 x14 [x13.dj]).bind fun x15 =>
   some (.inl (IntKind.i64.wrap (s22a+1),(l18a.set (x13.lG).toNat x15)))
  else
   some (.inr l18a)
def jt (r20:(List ak)):(Int×(List Int)×(List Int))->Option ((Int×(List Int)×(List Int))⊕(((List Int)×(List Int))))
 | (s46b,l6b,l7b) =>
  if decide (s46b<(r20.length:Int)) then
   (P.idx r20 s46b).bind fun x33 =>
   (P.idx l6b s46b).bind fun x34 =>
   (iz x33).bind fun r36 =>
   if decide (r36>0) then
    (P.idx (l6b.set (s46b).toNat (-1)) s46b).bind fun x38 =>
    (lS 8 l7b [s46b]).bind fun x40 =>
    some (.inl (IntKind.i64.wrap (s46b+1),((l6b.set (s46b).toNat (-1)).set (s46b).toNat 0),x40))
   else
    some (.inl (IntKind.i64.wrap (s46b+1),(l6b.set (s46b).toNat (-1)),l7b))
  else
   some (.inr (l6b,l7b))
def jv (x66:Int) (x69:(List Int)):(Int×(List Int)×(List Int))->Option ((Int×(List Int)×(List Int))⊕(((List Int)×(List Int))))
 | (s78e,l6e,l7e) =>
  if decide (s78e<((x69).length:Int)) then
   (P.idx x69 s78e).bind fun x80 =>
   (P.idx l6e x80).bind fun x81 =>
   if (x81==(-1)) then
    (P.idx l6e x66).bind fun x83 =>
    (lS 8 l7e [x80]).bind fun x85 =>
    some (.inl (IntKind.i64.wrap (s78e+1),(l6e.set (x80).toNat (IntKind.i64.wrap (x83+1))),x85))
   else
    some (.inl (IntKind.i64.wrap (s78e+1),l6e,l7e))
  else
   some (.inr (l6e,l7e))
def ju (l18ax:(List (List Int))):((List Int)×(List Int))->Option (((List Int)×(List Int))⊕(((List Int))))
 | (l6c,l7c) =>
  if decide (((l7c).length:Int)>0) then
   (P.idx l7c 0).bind fun x66 =>
   (Aq l7c 1 (l7c.length:Int)).bind fun x67 =>
   (P.idx l18ax x66).bind fun x69 =>
   (aY (jv x66 x69) (0,l6c,x67)).bind fun q=>match q with
   | (l6ex,l7ex) =>
    some (.inl (l6ex,l7ex))
  else
   some (.inr l6c)
def jr (p0:bR):Option ((List Int)) :=
 (iA p0).bind fun r1 =>
 if (!r1) then
  some ([])
 else
  (D7 24 p0.aG p0.aG ([])).bind fun x3 =>
  (aY (js p0) (0,x3)).bind fun l18ax =>
  (D7 8 p0.aG p0.aG 0).bind fun x18 =>
  (jw p0).bind fun r20 =>
  (aY (jt r20) (0,x18,[])).bind fun q=>match q with
  | (l6bx,l7bx) =>
   (aY (ju l18ax) (l6bx,l7bx)).bind fun l6cx =>
   some l6cx
def gN (r1:(List Int)):(Int×(List Int))->Option ((Int×(List Int))⊕(((List Int))))
 | (s9a,l3a) =>
  if decide (s9a<(r1.length:Int)) then
   (P.idx r1 s9a).bind fun x9 =>
   if (x9==(-1)) then
    (lS 8 l3a [s9a]).bind fun x11 =>
    some (.inl (IntKind.i64.wrap (s9a+1),x11))
   else
    some (.inl (IntKind.i64.wrap (s9a+1),l3a))
  else
   some (.inr l3a)
def gV (p0:bR):Option ((List Int)) :=
 (jr p0).bind fun r1 =>
 (aY (gN r1) (0,[])).bind fun l3ax =>
 some l3ax
def fF (p1:(List ak)) (x1:(List aq)):(Int×(List aq))->Option ((Int×(List aq))⊕(((List aq))))
 | (s14a,l11a) =>
  if decide (s14a<((x1).length:Int)) then
   (P.idx p1 s14a).bind fun x10 =>
   (P.idx l11a s14a).bind fun x11 =>
   some (.inl (IntKind.i64.wrap (s14a+1),(l11a.set (s14a).toNat (aq.mk x10 x11.bk))))
  else
   some (.inr l11a)
def fG (p0:bR):(Int×(List aq))->Option ((Int×(List aq))⊕(((List aq))))
 | (s29b,l11b) =>
  if decide (s29b<(p0.ax.length:Int)) then
   (P.idx p0.ax s29b).bind fun x24 =>
   (P.idx l11b x24.lG).bind fun x25 =>
   (lS 72 x25.bk [(dz.mk x24.dj x24.bd)]).bind fun x27 =>
   some (.inl (IntKind.i64.wrap (s29b+1),(l11b.set (x24.lG).toNat (aq.mk x25.aP x27))))
  else
   some (.inr l11b)
def cF (p0:bR) (p1:(List ak)):Option ((List aq)) :=
 (D7 88 p0.aG p0.aG (aq.mk (ak.mk (al.mk 0 ([])) (al.mk 0 ([]))) ([]))).bind fun x1 =>
 (aY (fF p1 x1) (0,x1)).bind fun l11ax =>
 (aY (fG p0) (0,l11ax)).bind fun l11bx =>
 some l11bx
def ck (p0:dz) (p1:Int):Option (Int) :=
 (ee p0.ke p1).bind fun r1 =>
 some r1
def bz (p0:(List dz)) (p1:Int):(Int×Int)->Option ((Int×Int)⊕((Int)))
 | (s9a,s10a) =>
  if decide (s9a<s10a) then
   (wK .u64 (IntKind.u64.wrap (IntKind.i64.wrap (s9a+s10a))) 1).bind fun x9 =>
   (P.idx p0 (IntKind.i64.wrap x9)).bind fun x11 =>
   (ck x11 p1).bind fun r12 =>
   if decide (r12<0) then
    some (.inl (IntKind.i64.wrap ((IntKind.i64.wrap x9)+1),s10a))
   else
    some (.inl (s9a,IntKind.i64.wrap x9))
  else
   some (.inr s9a)
def aQ (p0:(List dz)) (p1:Int):Option (Int×Bool) :=
 (aY (bz p0 p1) (0,(p0.length:Int))).bind fun s9ax =>
 if decide (s9ax<(p0.length:Int)) then
  (P.idx p0 s9ax).bind fun x15 =>
  (ck x15 p1).bind fun r16 =>
  some (s9ax,(r16==0))
 else
  some (s9ax,false)
def cm (p0:aq) (p1:Int):Option (aq×(Int×Bool)) :=
 (aQ p0.bk p1).bind fun r1 =>
 some (p0,(r1.1,r1.2))
def fm (p0:(List dz)) (p1 p2:Int):Option (List dz):=UF p0 p1 p2
def ld (p0:ak) (p1:ak):Option (ak×Int) :=
 (ca p0).bind fun r1 =>
 (if (!r1) then
  some true
 else
  (ca p1).bind fun r9 =>
  some (!r9)).bind fun s6j1 =>
 if s6j1 then
  some ((ak.mk (al.mk 0 ([])) (al.mk 0 ([]))),1)
 else
  if (p1.aH.ag==0) then
   some ((ak.mk (al.mk 0 ([])) (al.mk 0 ([]))),15)
  else
   (bV p0.aH p1.aJ).bind fun r5 =>
   (bV p0.aJ p1.aH).bind fun r6 =>
   (lf r5 r6).bind fun r7 =>
   some (r7.1,r7.2)
def dK (r8:ak×Int) (r10:(List dz)):(Int×(List dz))->Option ((Int×(List dz))⊕(((List dz))))
 | (s58a,r0_4a) =>
  if decide (s58a<((r10).length:Int)) then
   (P.idx r0_4a s58a).bind fun x21 =>
   (ld x21.dC r8.1).bind fun r23 =>
   some (.inl (IntKind.i64.wrap (s58a+1),(r0_4a.set (s58a).toNat (dz.mk x21.ke r23.1))))
  else
   some (.inr r0_4a)
def cX (p0:aq) (p1:Int):Option (aq×(Unit)) :=
 (cm p0 p1).bind fun r2 =>
 if (!r2.2.2) then
  some (r2.1,())
 else
  (gK 1).bind fun r5 =>
  (P.idx r2.1.bk r2.2.1).bind fun x6 =>
  (mG r5 x6.dC).bind fun r8 =>
  (fm r2.1.bk r2.2.1 (IntKind.i64.wrap (r2.2.1+1))).bind fun r10 =>
  (ld r2.1.aP r8.1).bind fun r12 =>
  (aY (dK r8 r10) (0,r10)).bind fun r0_4ax =>
  some ((aq.mk r12.1 r0_4ax),())
def mF (p0:ak) (p1:ak):Option (ak×Int) :=
 (ca p0).bind fun r1 =>
 (if (!r1) then
  some true
 else
  (ca p1).bind fun r8 =>
  some (!r8)).bind fun s13j1 =>
 if s13j1 then
  some ((ak.mk (al.mk 0 ([])) (al.mk 0 ([]))),1)
 else
  (bV p0.aH p1.aH).bind fun r4 =>
  (bV p0.aJ p1.aJ).bind fun r5 =>
  (lf r4 r5).bind fun r6 =>
  some (r6.1,r6.2)
def eW (p0:ak) (p1:ak) (p2:ak):Option (ak) :=
 (mF p1 p2).bind fun r1 =>
 (jL p0 r1.1).bind fun r2 =>
 some r2.1
def dD (p0:aq) (p1:Int) (p2:ak):Option (aq×(Unit)) :=
 (cm p0 p1).bind fun r2 =>
 if r2.2.2 then
  (P.idx r2.1.bk r2.2.1).bind fun x5 =>
  (gK 1).bind fun r7 =>
  (eW x5.dC p2 r7).bind fun r8 =>
  some ((aq.mk r2.1.aP (r2.1.bk.set (r2.2.1).toNat (dz.mk x5.ke r8))),())
 else
  (Vl 72 r2.1.bk r2.2.1 [(dz.mk p1 p2)]).bind fun x11 =>
  some ((aq.mk r2.1.aP x11),())
def ej (p2:aq) (x5:dz):(Int×Int×(List Int)×Int×(List Int)×(List dz))->Option ((Int×Int×(List Int)×Int×(List Int)×(List dz))⊕((Int×(List Int)×Int×(List Int)×(List dz))))
 | (s52a,r0_0a,r0_1a,r0_2a,r0_3a,r0_4a) =>
  if decide (s52a<(p2.bk.length:Int)) then
   (P.idx p2.bk s52a).bind fun x20 =>
   (gK 0).bind fun r21 =>
   (eW r21 x5.dC x20.dC).bind fun r22 =>
   (dD (aq.mk (ak.mk (al.mk r0_0a r0_1a) (al.mk r0_2a r0_3a)) r0_4a) x20.ke r22).bind fun r24 =>
   some (.inl (IntKind.i64.wrap (s52a+1),r24.1.aP.aH.ag,r24.1.aP.aH.aa,r24.1.aP.aJ.ag,r24.1.aP.aJ.aa,r24.1.bk))
  else
   some (.inr (r0_0a,r0_1a,r0_2a,r0_3a,r0_4a))
def dE (p0:aq) (p1:Int) (p2:aq):Option (aq×(Unit)) :=
 (cm p0 p1).bind fun r2 =>
 if (!r2.2.2) then
  some (r2.1,())
 else
  (P.idx r2.1.bk r2.2.1).bind fun x5 =>
  (fm r2.1.bk r2.2.1 (IntKind.i64.wrap (r2.2.1+1))).bind fun r8 =>
  (eW r2.1.aP x5.dC p2.aP).bind fun r10 =>
  (aY (ej p2 x5) (0,r10.aH.ag,r10.aH.aa,r10.aJ.ag,r10.aJ.aa,r8)).bind fun q=>match q with
  | (r0_0ax,r0_1ax,r0_2ax,r0_3ax,r0_4ax) =>
   some ((aq.mk (ak.mk (al.mk r0_0ax r0_1ax) (al.mk r0_2ax r0_3ax)) r0_4ax),())
def kL (s35b:Int):(Int×(List (Bool×aq)))->Option ((Int×(List (Bool×aq)))⊕(((List (Bool×aq)))))
 | (s8d,l32d) =>
  if decide (s8d<((l32d).length:Int)) then
   (P.idx l32d s8d).bind fun x50 =>
   (P.idx l32d s35b).bind fun x51 =>
   (Nf x51).bind fun x52 =>
   (MI x50).bind fun x54 =>
   (dE x54 s35b x52).bind fun r56 =>
   some (.inl (IntKind.i64.wrap (s8d+1),(l32d.set (s8d).toNat (false,r56.1))))
  else
   some (.inr l32d)
def jc (r6:(List aq)):(Int×(List (Bool×aq)))->Option ((Int×(List (Bool×aq)))⊕(((List (Bool×aq)))))
 | (s35b,l32b) =>
  if decide (s35b<((r6).length:Int)) then
   (P.idx l32b s35b).bind fun x34 =>
   (MI x34).bind fun x35 =>
   (cX x35 s35b).bind fun r37 =>
   (aY (kL s35b) (IntKind.i64.wrap (s35b+1),(l32b.set (s35b).toNat (true,r37.1)))).bind fun l32dx =>
   some (.inl (IntKind.i64.wrap (s35b+1),l32dx))
  else
   some (.inr l32b)
def mU (l9e:(List ak)) (x81:aq):(Int×Int×(List Int)×Int×(List Int))->Option ((Int×Int×(List Int)×Int×(List Int))⊕((Int×(List Int)×Int×(List Int))))
 | (s85g,r11_0g,r11_1g,r11_2g,r11_3g) =>
  if decide (s85g<(x81.bk.length:Int)) then
   (P.idx x81.bk s85g).bind fun x92 =>
   (P.idx l9e x92.ke).bind fun x93 =>
   (eW (ak.mk (al.mk r11_0g r11_1g) (al.mk r11_2g r11_3g)) x92.dC x93).bind fun r94 =>
   some (.inl (IntKind.i64.wrap (s85g+1),r94.aH.ag,r94.aH.aa,r94.aJ.ag,r94.aJ.aa))
  else
   some (.inr (r11_0g,r11_1g,r11_2g,r11_3g))
def jd (l32bx:(List (Bool×aq))):(Int×(List ak))->Option ((Int×(List ak))⊕(((List ak))))
 | (s10e,l9e) =>
  if decide (s10e>=0) then
   (P.idx l32bx s10e).bind fun x80 =>
   (Nf x80).bind fun x81 =>
   (gK 0).bind fun r83 =>
   (eW x81.aP r83 r83).bind fun r84 =>
   (aY (mU l9e x81) (0,r84.aH.ag,r84.aH.aa,r84.aJ.ag,r84.aJ.aa)).bind fun q=>match q with
   | (r11_0gx,r11_1gx,r11_2gx,r11_3gx) =>
    (P.idx l9e s10e).bind fun x95 =>
    some (.inl (IntKind.i64.wrap (s10e-1),(l9e.set (s10e).toNat (ak.mk (al.mk r11_0gx r11_1gx) (al.mk r11_2gx r11_3gx)))))
  else
   some (.inr l9e)
def fE (p0:bR) (p1:(List ak)):Option ((List ak)×Int) :=
 (iA p0).bind fun r1 =>
 (if (!r1) then
  some true
 else
  (eA p1 p0.aG).bind fun r98 =>
  some (!r98)).bind fun s14j1 =>
 if s14j1 then
  some ([],1)
 else
  (gV p0).bind fun r4 =>
  if decide ((r4.length:Int)>0) then
   some ([],24)
  else
   (cF p0 p1).bind fun r6 =>
   (aY (jc r6) (0,(FG r6))).bind fun l32bx =>
   (D7 64 p0.aG p0.aG (ak.mk (al.mk 0 ([])) (al.mk 0 ([])))).bind fun x58 =>
   (aY (jd l32bx) (IntKind.i64.wrap (((l32bx).length:Int)-1),x58)).bind fun l9ex =>
   some (l9ex,0)
def lB (p0:al) (p1:al):(Int)->Option ((Int)⊕((Unit)⊕(Bool)))
 | s5b =>
  if decide (s5b<(p0.aa.length:Int)) then
   (P.idx p0.aa s5b).bind fun x9 =>
   (P.idx p1.aa s5b).bind fun x10 =>
   if (x9 != x10) then
    some (.inr (.inr false))
   else
    some (.inl (IntKind.i64.wrap (s5b+1)))
  else
   some (.inr (.inl ()))
def gZ (p0:al) (p1:al):Option (Bool) :=
 (if (p0.ag != p1.ag) then
  some true
 else
  some ((p0.aa.length:Int) != (p1.aa.length:Int))).bind fun s19j1 =>
 if s19j1 then
  some false
 else
  (aY (lB p0 p1) 0).bind fun q=>match q with
  | (.inl _) =>
   some true
  | (.inr rb) =>
   some rb
def lA (p0:ak) (p1:ak):Option (Bool) :=
 (gZ p0.aH p1.aH).bind fun r1 =>
 if r1 then
  (gZ p0.aJ p1.aJ).bind fun r3 =>
  some r3
 else
  some false
def zP (p0:(List ak)) (p1:(List ak)):(Int)->Option ((Int)⊕((Unit)⊕(Bool)))
 | s5a =>
  if decide (s5a<(p0.length:Int)) then
   (P.idx p0 s5a).bind fun x9 =>
   (P.idx p1 s5a).bind fun x10 =>
   (lA x9 x10).bind fun r11 =>
   if (!r11) then
    some (.inr (.inr false))
   else
    some (.inl (IntKind.i64.wrap (s5a+1)))
  else
   some (.inr (.inl ()))
def tQ (p0:(List ak)) (p1:(List ak)):Option (Bool) :=
 if ((p0.length:Int) != (p1.length:Int)) then
  some false
 else
  (aY (zP p0 p1) 0).bind fun q=>match q with
  | (.inl _) =>
   some true
  | (.inr ra) =>
   some ra
def mz (p0:al) (p1:al):Option (Int) :=
 (cn p0).bind fun r1 =>
 (if (!r1) then
  some true
 else
  (cn p1).bind fun r8 =>
  some (!r8)).bind fun s12j1 =>
 if s12j1 then
  some 0
 else
  if (p0.ag != p1.ag) then
   (ee p0.ag p1.ag).bind fun r5 =>
   some r5
  else
   (eD p0.aa p1.aa).bind fun r6 =>
   some (IntKind.i64.wrap (p0.ag*r6))
def k9 (p0:ak) (p1:ak):Option (Int) :=
 (ca p0).bind fun r1 =>
 (if (!r1) then
  some true
 else
  (ca p1).bind fun r8 =>
  some (!r8)).bind fun s12j1 =>
 if s12j1 then
  some 0
 else
  (bV p0.aH p1.aJ).bind fun r4 =>
  (bV p1.aH p0.aJ).bind fun r5 =>
  (mz r4 r5).bind fun r6 =>
  some r6
def tW (p2:(List ak)) (x21:aq):(Int×Int×(List Int)×Int×(List Int))->Option ((Int×Int×(List Int)×Int×(List Int))⊕((Int×(List Int)×Int×(List Int))))
 | (s43d,r9_0d,r9_1d,r9_2d,r9_3d) =>
  if decide (s43d<(x21.bk.length:Int)) then
   (P.idx x21.bk s43d).bind fun x28 =>
   (P.idx p2 x28.ke).bind fun x29 =>
   (eW (ak.mk (al.mk r9_0d r9_1d) (al.mk r9_2d r9_3d)) x28.dC x29).bind fun r30 =>
   some (.inl (IntKind.i64.wrap (s43d+1),r30.aH.ag,r30.aH.aa,r30.aJ.ag,r30.aJ.aa))
  else
   some (.inr (r9_0d,r9_1d,r9_2d,r9_3d))
def tV (p2:(List ak)) (r4:(List aq)):(Int)->Option ((Int)⊕((Unit)⊕(Bool)))
 | s33b =>
  if decide (s33b<(r4.length:Int)) then
   (P.idx r4 s33b).bind fun x21 =>
   (aY (tW p2 x21) (0,x21.aP.aH.ag,x21.aP.aH.aa,x21.aP.aJ.ag,x21.aP.aJ.aa)).bind fun q=>match q with
   | (r9_0dx,r9_1dx,r9_2dx,r9_3dx) =>
    (P.idx p2 s33b).bind fun x31 =>
    (k9 (ak.mk (al.mk r9_0dx r9_1dx) (al.mk r9_2dx r9_3dx)) x31).bind fun r32 =>
    if (r32 != 0) then
     some (.inr (.inr false))
    else
     some (.inl (IntKind.i64.wrap (s33b+1)))
  else
   some (.inr (.inl ()))
def kK (p0:bR) (p1:(List ak)) (p2:(List ak)):Option (Bool) :=
 (iA p0).bind fun r1 =>
 (if (!r1) then
  some true
 else
  (eA p1 p0.aG).bind fun r35 =>
  if (!r35) then
   some true
  else
   (eA p2 p0.aG).bind fun r37 =>
   some (!r37)).bind fun s28j1 =>
 if s28j1 then
  some false
 else
  (cF p0 p1).bind fun r4 =>
  (aY (tV p2 r4) 0).bind fun q=>match q with
  | (.inl _) =>
   some true
  | (.inr rb) =>
   some rb
def mH (p0:bR) (p1:(List Int)) (p2:(List Int)):Option (Bool) :=
 (jN p1).bind fun r1 =>
 (fE p0 r1).bind fun r2 =>
 if (r2.2==0) then
  (jN p2).bind fun r4 =>
  (tQ r2.1 r4).bind fun r5 =>
  if r5 then
   (kK p0 r1 r2.1).bind fun r7 =>
   some r7
  else
   some false
 else
  some false
def nR:Option (Bool) :=
 (jO 0 1 1 2).bind fun r1 =>
 (jO 1 0 1 2).bind fun r2 =>
 (jO 0 1 1 1).bind fun r3 =>
 (jO 1 2 1 3).bind fun r4 =>
 (jO 0 0 3 4).bind fun r5 =>
 (jO 1 0 1 1).bind fun r6 =>
 (jN ([1,0])).bind fun r8 =>
 (fE (bR.mk 2 ([r3,r6])) r8).bind fun r10 =>
 (jN ([1])).bind fun r12 =>
 (fE (bR.mk 2 ([r1,r2])) r12).bind fun r14 =>
 (mH (bR.mk 2 ([r1,r2])) ([30,0]) ([40,20])).bind fun r16 =>
 (if r16 then
  (mH (bR.mk 3 ([r3,r4])) ([6,3,0]) ([6,9,3])).bind fun r29 =>
  if r29 then
   (mH (bR.mk 1 ([r5])) ([1]) ([4])).bind fun r32 =>
   if r32 then
    (mH (bR.mk 0 ([])) ([]) ([])).bind fun r35 =>
    some r35
   else
    some false
  else
   some false
 else
  some false).bind fun s9j1 =>
 if s9j1 then
  if (r10.2==24) then
   if (r14.2==1) then
    (jN ([30,0])).bind fun r22 =>
    (jN ([40,21])).bind fun r24 =>
    (kK (bR.mk 2 ([r1,r2])) r22 r24).bind fun r26 =>
    some (!r26)
   else
    some false
  else
   some false
 else
  some false
def pI (p0:ak) (p1:Int):Option (Bool) :=
 if decide ((p0.aH.aa.length:Int)<=p1) then
  some (decide ((p0.aJ.aa.length:Int)<=p1))
 else
  some false
def mu (p0:bR):(Int)->Option ((Int)⊕((Unit)⊕(Bool)))
 | s3a =>
  (if decide (s3a<(p0.ax.length:Int)) then
   some (decide (s3a<40))
  else
   some false).bind fun s12j3 =>
  if s12j3 then
   (P.idx p0.ax s3a).bind fun x10 =>
   (pI x10.bd 6).bind fun r11 =>
   if (!r11) then
    some (.inr (.inr false))
   else
    some (.inl (IntKind.i64.wrap (s3a+1)))
  else
   some (.inr (.inl ()))
def km (p0:bR):Option (Bool) :=
 (aY (mu p0) 0).bind fun q=>match q with
 | (.inl _) =>
  if decide (p0.aG<=12) then
   some (decide ((p0.ax.length:Int)<=40))
  else
   if decide (p0.aG>2000) then
    some (decide ((p0.ax.length:Int)<=40))
   else
    some false
 | (.inr ra) =>
  some ra
def rT (p0:(List ak)) (p1:Int):(Int)->Option ((Int)⊕((Unit)⊕(Bool)))
 | s5a =>
  (if decide (s5a<(p0.length:Int)) then
   some (decide (s5a<=14))
  else
   some false).bind fun s13j3 =>
  if s13j3 then
   (P.idx p0 s5a).bind fun x10 =>
   (pI x10 p1).bind fun r11 =>
   if (!r11) then
    some (.inr (.inr false))
   else
    some (.inl (IntKind.i64.wrap (s5a+1)))
  else
   some (.inr (.inl ()))
def rS (p0:(List ak)) (p1:Int):Option (Bool) :=
 (aY (rT p0 p1) 0).bind fun q=>match q with
 | (.inl _) =>
  some (decide ((p0.length:Int)<=14))
 | (.inr ra) =>
  some ra
def rG (p0:bR) (p1:(List ak)):Option (Bool) :=
 (km p0).bind fun r1 =>
 if r1 then
  (rS p1 4).bind fun r3 =>
  some r3
 else
  some false
def oE (p0:bR) (p1:Int):Option (ak) :=
 (iA p0).bind fun r1 =>
 if (!r1) then
  some (ak.mk (al.mk 0 ([])) (al.mk 0 ([])))
 else
  (fA p1 0 (IntKind.i64.wrap (p0.aG-1))).bind fun r3 =>
  if (!r3) then
   some (ak.mk (al.mk 0 ([])) (al.mk 0 ([])))
  else
   (jw p0).bind fun r5 =>
   (P.idx r5 p1).bind fun x6 =>
   some x6
def gL (p0:bR) (p1:(List ak)) (r4:(List ak)×Int):(Int×Int×(List Int)×Int×(List Int)×Int×(List Int)×Int×(List Int))->Option ((Int×Int×(List Int)×Int×(List Int)×Int×(List Int)×Int×(List Int))⊕((Int×(List Int)×Int×(List Int)×Int×(List Int)×Int×(List Int))⊕(Bool)))
 | (s10a,r8_0a,r8_1a,r8_2a,r8_3a,r9_0a,r9_1a,r9_2a,r9_3a) =>
  if decide (s10a<(r4.1.length:Int)) then
   (oE p0 s10a).bind fun r18 =>
   (P.idx r4.1 s10a).bind fun x19 =>
   (mF r18 x19).bind fun r20 =>
   if (r20.2 != 0) then
    some (.inr (.inr false))
   else
    (P.idx p1 s10a).bind fun x22 =>
    (jL (ak.mk (al.mk r8_0a r8_1a) (al.mk r8_2a r8_3a)) x22).bind fun r23 =>
    (jL (ak.mk (al.mk r9_0a r9_1a) (al.mk r9_2a r9_3a)) r20.1).bind fun r24 =>
    some (.inl (IntKind.i64.wrap (s10a+1),r23.1.aH.ag,r23.1.aH.aa,r23.1.aJ.ag,r23.1.aJ.aa,r24.1.aH.ag,r24.1.aH.aa,r24.1.aJ.ag,r24.1.aJ.aa))
  else
   some (.inr (.inl (r8_0a,r8_1a,r8_2a,r8_3a,r9_0a,r9_1a,r9_2a,r9_3a)))
def gu (p0:bR) (p1:(List ak)):Option (Bool) :=
 (nR).bind fun r1 =>
 (rG p0 p1).bind fun r2 =>
 if (!r2) then
  some r1
 else
  (fE p0 p1).bind fun r4 =>
  if (r4.2 != 0) then
   some r1
  else
   if ((r4.1.length:Int) != (p1.length:Int)) then
    some false
   else
    (nP 0).bind fun r7 =>
    (aY (gL p0 p1 r4) (0,r7.aH.ag,r7.aH.aa,r7.aJ.ag,r7.aJ.aa,r7.aH.ag,r7.aH.aa,r7.aJ.ag,r7.aJ.aa)).bind fun q=>match q with
    | (.inl (r8_0ax,r8_1ax,r8_2ax,r8_3ax,r9_0ax,r9_1ax,r9_2ax,r9_3ax)) =>
     if r1 then
      (lA (ak.mk (al.mk r8_0ax r8_1ax) (al.mk r8_2ax r8_3ax)) (ak.mk (al.mk r9_0ax r9_1ax) (al.mk r9_2ax r9_3ax))).bind fun r26 =>
      some r26
     else
      some false
    | (.inr ra) =>
     some ra
end Go.Proofs.Ytchndpjlijbplaa.P
namespace Go.Proofs.Ytchndpjlijbplaa.Am
open Go.RowKit Go.Proofs.Ytchndpjlijbplaa.P
set_option maxRecDepth 100000
set_option maxHeartbeats 4000000
set_option linter.unusedSimpArgs false
set_option linter.unusedVariables false
theorem vmt:type_of% (ai @YS<|ai @Si<|ai @YT<|ai @YU<|ai @YV<|ai @Wk<|ai @Wl<|ai @Pz<|ai @Wm<|ai @IJ<|ai @IK<|ai @Wn<|ai @IL<|ai @Wo<|ai @Wp<|ai @PA<|ai @Wq<|ai @IM<|ai @Wr<|ai @IN<|ai @Ws<|ai @Wt<|ai @Wu<|ai @Wv<|ai @PB<|ai @Ww<|ai @Wx<|ai @Wy<|ai @Sf<|ai @Sg<|@Sh):=⟨@YS,@Si,@YT,@YU,@YV,@Wk,@Wl,@Pz,@Wm,@IJ,@IK,@Wn,@IL,@Wo,@Wp,@PA,@Wq,@IM,@Wr,@IN,@Ws,@Wt,@Wu,@Wv,@PB,@Ww,@Wx,@Wy,@Sf,@Sg,@Sh⟩
def eL:hY al:=Kd (xd (eI .i64) (NG (eI .i64))) (fun x=>(x.ag,x.aa)) (by rintro⟨⟩ ⟨⟩ h;simpa using h)
theorem zn (x:al):eL.cells x=[.int .i64 x.ag,.sl false false x.aa.length (ae (eI .i64) x.aa)]:=afp
theorem qZ:eL.size=2:=afp
theorem Ko (x:al):al.mk x.ag x.aa=x:=afp
def ay:hY ak:=Kd (xd eL eL) (fun x=>(x.aH,x.aJ)) (by rintro⟨⟩ ⟨⟩ h;simpa using h)
theorem xf (x:ak):ay.cells x=[.int .i64 x.aH.ag,.sl false false x.aH.aa.length (ae (eI .i64) x.aH.aa),.int .i64 x.aJ.ag,.sl false false x.aJ.aa.length (ae (eI .i64) x.aJ.aa)]:=afp
theorem oX:ay.size=4:=afp
theorem Fz (x:ak):ak.mk x.aH x.aJ=x:=afp
def ba:hY dk:=Kd (xd (eI .i64) (xd (eI .i64) ay)) (fun x=>(x.dj,x.lG,x.bd)) (by rintro⟨⟩ ⟨⟩ h;simpa using h)
theorem xg (x:dk):ba.cells x=[.int .i64 x.dj,.int .i64 x.lG,.int .i64 x.bd.aH.ag,.sl false false x.bd.aH.aa.length (ae (eI .i64) x.bd.aH.aa),.int .i64 x.bd.aJ.ag,.sl false false x.bd.aJ.aa.length (ae (eI .i64) x.bd.aJ.aa)]:=afp
theorem oY:ba.size=6:=afp
theorem FA (x:dk):dk.mk x.dj x.lG x.bd=x:=afp
def mD:hY bR:=Kd (xd (eI .i64) (NG ba)) (fun x=>(x.aG,x.ax)) (by rintro⟨⟩ ⟨⟩ h;simpa using h)
theorem zo (x:bR):mD.cells x=[.int .i64 x.aG,.sl false false x.ax.length (ae ba x.ax)]:=afp
theorem q8:mD.size=2:=afp
theorem Kp (x:bR):bR.mk x.aG x.ax=x:=afp
def bm:hY dz:=Kd (xd (eI .i64) ay) (fun x=>(x.ke,x.dC)) (by rintro⟨⟩ ⟨⟩ h;simpa using h)
theorem xh (x:dz):bm.cells x=[.int .i64 x.ke,.int .i64 x.dC.aH.ag,.sl false false x.dC.aH.aa.length (ae (eI .i64) x.dC.aH.aa),.int .i64 x.dC.aJ.ag,.sl false false x.dC.aJ.aa.length (ae (eI .i64) x.dC.aJ.aa)]:=afp
theorem oZ:bm.size=5:=afp
theorem FB (x:dz):dz.mk x.ke x.dC=x:=afp
def cz:hY aq:=Kd (xd ay (NG bm)) (fun x=>(x.aP,x.bk)) (by rintro⟨⟩ ⟨⟩ h;simpa using h)
theorem lW (x:aq):cz.cells x=[.int .i64 x.aP.aH.ag,.sl false false x.aP.aH.aa.length (ae (eI .i64) x.aP.aH.aa),.int .i64 x.aP.aJ.ag,.sl false false x.aP.aJ.aa.length (ae (eI .i64) x.aP.aJ.aa),.sl false false x.bk.length (ae bm x.bk)]:=afp
theorem j1:cz.size=5:=afp
def aD:hY aq:=Kd (xd ay (BN bm)) (fun x=>(x.aP,x.bk)) (by rintro⟨⟩ ⟨⟩ h;simpa using h)
theorem cQ (x:aq):aD.cells x=[.int .i64 x.aP.aH.ag,.sl false false x.aP.aH.aa.length (ae (eI .i64) x.aP.aH.aa),.int .i64 x.aP.aJ.ag,.sl false false x.aP.aJ.aa.length (ae (eI .i64) x.aP.aJ.aa),.nx (x.bk).length (ae bm (x.bk))]:=afp
theorem lV:aD.size=5:=afp
theorem BR (x:aq):(aD.cells x).map DF=cz.cells x:=afp
theorem BQ (x:aq):(aD.cells x).all (vv 5)=true:=by simp[cQ,vv,eY,bG,Aw,qY,uy,xe,qZ,oX,oY,q8,oZ,j1]
def aW:hY (Bool×aq):=aad cz aD rfl (by intro x y h;simp[lW,cQ]at h)
theorem vL (x:aq):aW.cells (false,x)=[.int .i64 x.aP.aH.ag,.sl false false x.aP.aH.aa.length (ae (eI .i64) x.aP.aH.aa),.int .i64 x.aP.aJ.ag,.sl false false x.aP.aJ.aa.length (ae (eI .i64) x.aP.aJ.aa),.nx (x.bk).length (ae bm (x.bk))]:=afp
theorem vM (x:aq):aW.cells (true,x)=[.int .i64 x.aP.aH.ag,.sl false false x.aP.aH.aa.length (ae (eI .i64) x.aP.aH.aa),.int .i64 x.aP.aJ.ag,.sl false false x.aP.aJ.aa.length (ae (eI .i64) x.aP.aJ.aa),.sl false false x.bk.length (ae bm x.bk)]:=afp
theorem kX (x:aq):aW.cells (false,x)=aD.cells x:=afp
theorem BP (x:aq):aW.cells (true,x)=cz.cells x:=afp
theorem lU:aW.size=5:=afp
theorem vN (x:aq):aq.mk x.aP x.bk=x:=afp
theorem Yr {l:List _} : (ae (eI .i64) l).length=l.length*1:=bG _ l
theorem PC {l:List _} : (ae (eI .i64) l).take (l.length*1)=ae (eI .i64) l:=by
 have:=dY (eI .i64) l l.length
 rw[aeC]at this
 exact this
theorem Wz {l:List _} {i:Nat} {x:_} : (ae (eI .i64) (l.set i x)).take (l.length*1)=ae (eI .i64) (l.set i x):=by
 have:=@PC (l.set i x)
 rwa [aeB]at this
theorem Ys {l:List _} : (ae (eI .u8) l).length=l.length*1:=bG _ l
theorem PD {l:List _} : (ae (eI .u8) l).take (l.length*1)=ae (eI .u8) l:=by
 have:=dY (eI .u8) l l.length
 rw[aeC]at this
 exact this
theorem WA {l:List _} {i:Nat} {x:_} : (ae (eI .u8) (l.set i x)).take (l.length*1)=ae (eI .u8) (l.set i x):=by
 have:=@PD (l.set i x)
 rwa [aeB]at this
theorem Yt {l:List _} : (ae (BN (eI .i64)) l).length=l.length*1:=bG _ l
theorem PE {l:List _} : (ae (BN (eI .i64)) l).take (l.length*1)=ae (BN (eI .i64)) l:=by
 have:=dY (BN (eI .i64)) l l.length
 rw[aeC]at this
 exact this
theorem WB {l:List _} {i:Nat} {x:_} : (ae (BN (eI .i64)) (l.set i x)).take (l.length*1)=ae (BN (eI .i64)) (l.set i x):=by
 have:=@PE (l.set i x)
 rwa [aeB]at this
theorem Yu {l:List _} : (ae (NG (eI .i64)) l).length=l.length*1:=bG _ l
theorem PF {l:List _} : (ae (NG (eI .i64)) l).take (l.length*1)=ae (NG (eI .i64)) l:=by
 have:=dY (NG (eI .i64)) l l.length
 rw[aeC]at this
 exact this
theorem WC {l:List _} {i:Nat} {x:_} : (ae (NG (eI .i64)) (l.set i x)).take (l.length*1)=ae (NG (eI .i64)) (l.set i x):=by
 have:=@PF (l.set i x)
 rwa [aeB]at this
theorem Yv {l:List _} : (ae zl l).length=l.length*1:=bG _ l
theorem PG {l:List _} : (ae zl l).take (l.length*1)=ae zl l:=by
 have:=dY zl l l.length
 rw[aeC]at this
 exact this
theorem WD {l:List _} {i:Nat} {x:_} : (ae zl (l.set i x)).take (l.length*1)=ae zl (l.set i x):=by
 have:=@PG (l.set i x)
 rwa [aeB]at this
theorem Yw {l:List _} : (ae ay l).length=l.length*4:=bG _ l
theorem PH {l:List _} : (ae ay l).take (l.length*4)=ae ay l:=by
 have:=dY ay l l.length
 rw[aeC]at this
 exact this
theorem WE {l:List _} {i:Nat} {x:_} : (ae ay (l.set i x)).take (l.length*4)=ae ay (l.set i x):=by
 have:=@PH (l.set i x)
 rwa [aeB]at this
theorem Yx {l:List _} : (ae ba l).length=l.length*6:=bG _ l
theorem PI {l:List _} : (ae ba l).take (l.length*6)=ae ba l:=by
 have:=dY ba l l.length
 rw[aeC]at this
 exact this
theorem WG {l:List _} {i:Nat} {x:_} : (ae ba (l.set i x)).take (l.length*6)=ae ba (l.set i x):=by
 have:=@PI (l.set i x)
 rwa [aeB]at this
theorem Yy {l:List _} : (ae cz l).length=l.length*5:=bG _ l
theorem PJ {l:List _} : (ae cz l).take (l.length*5)=ae cz l:=by
 have:=dY cz l l.length
 rw[aeC]at this
 exact this
theorem WH {l:List _} {i:Nat} {x:_} : (ae cz (l.set i x)).take (l.length*5)=ae cz (l.set i x):=by
 have:=@PJ (l.set i x)
 rwa [aeB]at this
theorem Yz {l:List _} : (ae aW l).length=l.length*5:=bG _ l
theorem PL {l:List _} : (ae aW l).take (l.length*5)=ae aW l:=by
 have:=dY aW l l.length
 rw[aeC]at this
 exact this
theorem WI {l:List _} {i:Nat} {x:_} : (ae aW (l.set i x)).take (l.length*5)=ae aW (l.set i x):=by
 have:=@PL (l.set i x)
 rwa [aeB]at this
theorem YA {l:List _} : (ae aD l).length=l.length*5:=bG _ l
theorem PM {l:List _} : (ae aD l).take (l.length*5)=ae aD l:=by
 have:=dY aD l l.length
 rw[aeC]at this
 exact this
theorem WJ {l:List _} {i:Nat} {x:_} : (ae aD (l.set i x)).take (l.length*5)=ae aD (l.set i x):=by
 have:=@PM (l.set i x)
 rwa [aeB]at this
theorem Vs {l:List _} : (ae bm l).length=l.length*5:=bG _ l
theorem IP {l:List _} : (ae bm l).take (l.length*5)=ae bm l:=by
 have:=dY bm l l.length
 rw[aeC]at this
 exact this
theorem Sj {l:List _} {i:Nat} {x:_} : (ae bm (l.set i x)).take (l.length*5)=ae bm (l.set i x):=by
 have:=@IP (l.set i x)
 rwa [aeB]at this
theorem vme:type_of% (ai @BM<|ai @zm<|ai @BO<|ai @yp<|ai @Aw<|ai @qY<|ai @uy<|ai @xe<|ai @xi<|ai @ux<|ai @th<|ai @cQ<|ai @lV<|ai @vL<|ai @vM<|ai @lU<|ai @zn<|ai @qZ<|ai @xf<|ai @oX<|ai @xg<|ai @oY<|ai @zo<|ai @q8<|ai @xh<|ai @oZ<|ai @lW<|@j1):=⟨@BM,@zm,@BO,@yp,@Aw,@qY,@uy,@xe,@xi,@ux,@th,@cQ,@lV,@vL,@vM,@lU,@zn,@qZ,@xf,@oX,@xg,@oY,@zo,@q8,@xh,@oZ,@lW,@j1⟩
theorem vml:type_of% (ai @aK<|ai @Ko<|ai @Fz<|ai @FA<|ai @Kp<|ai @FB<|ai @vN<|ai @Yr<|ai @PC<|ai @Wz<|ai @Ys<|ai @PD<|ai @WA<|ai @Yt<|ai @PE<|ai @WB<|ai @Yu<|ai @PF<|ai @WC<|ai @Yv<|ai @PG<|ai @WD<|ai @Yw<|ai @PH<|ai @WE<|ai @Yx<|ai @PI<|ai @WG<|ai @Yy<|ai @PJ<|ai @WH<|ai @Yz<|ai @PL<|ai @WI<|ai @YA<|ai @PM<|ai @WJ<|ai @Vs<|ai @IP<|@Sj):=⟨@aK,@Ko,@Fz,@FA,@Kp,@FB,@vN,@Yr,@PC,@Wz,@Ys,@PD,@WA,@Yt,@PE,@WB,@Yu,@PF,@WC,@Yv,@PG,@WD,@Yw,@PH,@WE,@Yx,@PI,@WG,@Yy,@PJ,@WH,@Yz,@PL,@WI,@YA,@PM,@WJ,@Vs,@IP,@Sj⟩
theorem w:type_of% (ai @v<|ai @vmt<|ai @vme<|ai @vml<|ai @vn<|@vi):=⟨@v,@vmt,@vme,@vml,@vn,@vi⟩
theorem bJ:type_of% (ai @vme<|ai @aes<|ai @aei<|ai @ac2<|ai @aet<|@adX):=⟨@vme,@aes,@aei,@ac2,@aet,@adX⟩
noncomputable def kb:=fU (fQ (mX (eI .i64))) (fun x:(List Int)=>gp x) (fun r:(List Int) =>.clean (.sl false false r.length (ae (eI .i64) r)))
theorem fB (p0:(List Int)):kb none [.sl false false p0.length (ae (eI .i64) p0)]=(gp p0).map fun r:(List Int)=>(.clean (.sl false false r.length (ae (eI .i64) r)),none):=aV _ _ _ (p0)
theorem O2 (p0:(List Int)) (r:(List Int)) (hh:gp p0=some r):a7 .clean tab a6 FU Try.f106 none [.sl false false p0.length (ae (eI .i64) p0)]=some (.clean (.sl false false r.length (ae (eI .i64) r)),none):=by
 refine aB rfl Try.ntmps106 Try.results106 ?_
 unfold gp at hh
 try simp only[w,seval]
 obtain⟨o4,ho4,hh⟩:=ah hh
 refine aA (fun s t H e=>match s with|s3a=>t 0=.sl false false p0.length (ae (eI .i64) p0)∧t 3=.int .i64 s3a) (fun o x t H e=>match o with|s3ax=>x=.exit 0∧t 0=.sl false false p0.length (ae (eI .i64) p0)∧t 3=.int .i64 s3ax) ho4 ?_ ?_ ?_
 ·refine⟨?_,?_⟩
  all_goals first|rfl|(simp only[w,seval]<;>rfl)
 ·rintro s3a t H e Za c hh
  simp only[tO]at hh
  try simp only[w,seval,Za]
  refine sp dW hh (fun _ hh =>?_) (fun _ hh =>?_)
  ·obtain⟨x6,hx6,hh⟩:=ah hh
   have ax6:=bN (eI .i64) hx6
   simp only[bJ]at ax6
   try simp only[w,seval,Za,ax6]
   refine sp an hh (fun _ hh =>?_) (fun _ hh =>?_)
   ·cases hh
    try simp only[w,seval,Za,ax6]
    refine j5 ?_
    refine⟨?_,?_⟩
    all_goals first|rfl|(simp only[w,seval,Za,ax6]<;>rfl)
   ·cases hh
    try simp only[w,seval,Za,ax6]
    refine ll ?_
    refine⟨rfl,⟨?_,?_⟩⟩
    all_goals first|rfl|(simp only[w,seval,Za,ax6]<;>rfl)
  ·cases hh
   try simp only[w,seval,Za]
   refine ll ?_
   refine⟨rfl,⟨?_,?_⟩⟩
   all_goals first|rfl|(simp only[w,seval,Za]<;>rfl)
 ·rintro x t H e hx
  obtain⟨s3ax,rfl⟩:∃z,z=o4:=⟨_,rfl⟩
  dsimp only at hx hh
  obtain⟨rfl,Zax⟩:=hx
  obtain⟨x8,hx8,hh⟩:=ah hh
  obtain⟨q9a,q9b,q9c,q9d,q9e⟩:=IH (eI .i64) hx8
  simp only[bJ]at q9e
  obtain⟨x10,hx10,hh⟩:=ah hh
  obtain⟨q11a,q11b,q11c⟩:=As hx10
  replace q11a:=q11a.symm
  subst q11a
  cases hh
  try simp only[w,seval,Zax,q9a,q9b,q9c,q9d,q9e,q11b,q11c]
theorem mR:bW Try.prog 106 kb:=bW.of (mode := .clean) tok bC.none mixed Try.func106 (by kernel_rfl) ⟨by kernel_rfl,by kernel_rfl⟩ (fun _=>aej (by kernel_rfl)) (fun x r h=>O2 x r h)
noncomputable def lN:=fU (jg (aI .i64) (fQ (mX (eI .i64)))) (fun x:Int×(List Int)=>fD x.1 x.2) (fun r:al =>.clean (.agg [.int .i64 r.ag,.sl false false r.aa.length (ae (eI .i64) r.aa)]))
theorem ja (p0:Int) (p1:(List Int)):lN none [.int .i64 p0,.sl false false p1.length (ae (eI .i64) p1)]=(fD p0 p1).map fun r:al=>(.clean (.agg [.int .i64 r.ag,.sl false false r.aa.length (ae (eI .i64) r.aa)]),none):=aV _ _ _ (p0,p1)
noncomputable def rz:Env:=(Am.ext a6 106 false kb)
theorem KO:bC Try.prog rz:=(bC.none.add mR false)
theorem wP:type_of% (ai @w<|ai @fB<|@rz.eq_1):=⟨@w,@fB,@rz.eq_1⟩
theorem OZ (p0:Int) (p1:(List Int)) (r:al) (hh:fD p0 p1=some r):a7 .clean tab rz FU Try.f86 none [.int .i64 p0,.sl false false p1.length (ae (eI .i64) p1)]=some (.clean (.agg [.int .i64 r.ag,.sl false false r.aa.length (ae (eI .i64) r.aa)]),none):=by
 refine aB rfl Try.ntmps86 Try.results86 ?_
 unfold fD at hh
 obtain⟨r1,hr1,hh⟩:=ah hh
 try simp only[wP,seval,hr1]
 refine sp an hh (fun _ hh =>?_) (fun _ hh =>?_)
 ·cases hh
  try simp only[wP,seval,hr1]
 ·cases hh
  try simp only[wP,seval,hr1]
theorem pt:bW Try.prog 86 lN:=bW.of (mode := .clean) tok KO mixed Try.func86 (by kernel_rfl) ⟨by kernel_rfl,by kernel_rfl⟩ (fun _=>aej (by kernel_rfl)) (fun x r h=>OZ x.1 x.2 r h)
noncomputable def AK:=fU (fQ (aI .i64)) (fun x:Int=>tM x) (fun r:al =>.clean (.agg [.int .i64 r.ag,.sl false false r.aa.length (ae (eI .i64) r.aa)]))
theorem MP (p0:Int):AK none [.int .i64 p0]=(tM p0).map fun r:al=>(.clean (.agg [.int .i64 r.ag,.sl false false r.aa.length (ae (eI .i64) r.aa)]),none):=aV _ _ _ (p0)
noncomputable def xm:Env:=(Am.ext a6 86 false lN)
theorem SS:bC Try.prog xm:=(bC.none.add pt false)
theorem dX:type_of% (ai @w<|ai @ja<|@xm.eq_1):=⟨@w,@ja,@xm.eq_1⟩
theorem Vz (p0:Int) (r:al) (hh:tM p0=some r):a7 .clean tab xm FU Try.f58 none [.int .i64 p0]=some (.clean (.agg [.int .i64 r.ag,.sl false false r.aa.length (ae (eI .i64) r.aa)]),none):=by
 refine aB rfl Try.ntmps58 Try.results58 ?_
 unfold tM at hh
 try simp only[dX,seval]
 refine sp an hh (fun _ hh =>?_) (fun _ hh =>?_)
 ·cases hh
  try simp only[dX,seval]
 ·try simp only[dX,seval]
  obtain⟨o2,ho2,hh⟩:=ah hh
  refine jW 0 (fun s t H e=>match s with|s3j1=>∃v2j1:Nat,t 0=.int .i64 p0∧t 2=.ptr 2 v2j1 0∧t 3=.int .i64 s3j1∧H 2=some ⟨v2j1,39,[.int .i64 0,.sl true true 0 []],false,false,false⟩) (fun s=>s=o2) ?_ ?_
  ·rintro s3j1 t H e ⟨v2j1,Zj1⟩ rfl
   try dsimp only at hh
   try simp only[dX,seval,Zj1]
   obtain⟨o15,ho15,hh⟩:=ah hh
   refine aA (fun s t H e=>match s with|(s0b,l4b)=>∃v2b:Nat,∃v4b:Nat,t 0=.int .i64 s0b∧t 2=.ptr 2 v2b 0∧t 3=.int .i64 s3j1∧t 4=.buf 4 v4b 1 0 (l4b).length∧H 2=some ⟨v2b,39,[.int .i64 0,.sl true true 0 []],false,false,false⟩∧H 4=some ⟨v4b,3,ae (eI .i64) l4b,false,true,false⟩) (fun o x t H e=>match o with|l4bx=>x=.exit 0∧∃v2bx:Nat,∃v4bx:Nat,t 2=.ptr 2 v2bx 0∧t 3=.int .i64 s3j1∧t 4=.buf 4 v4bx 1 0 (l4bx).length∧H 2=some ⟨v2bx,39,[.int .i64 0,.sl true true 0 []],false,false,false⟩∧H 4=some ⟨v4bx,3,ae (eI .i64) l4bx,false,true,false⟩) ho15 ?_ ?_ ?_
   ·refine⟨v2j1,e,?_,?_,?_,?_,?_,?_⟩
    all_goals first|rfl|(simp only[dX,seval,Zj1]<;>rfl)
   ·rintro⟨s0b,l4b⟩ t H e ⟨v2b,v4b,Zb⟩ c hh
    simp only[u6]at hh
    try simp only[dX,seval,Zb]
    refine sp an hh (fun _ hh =>?_) (fun _ hh =>?_)
    ·obtain⟨x17,hx17,hh⟩:=ah hh
     have q18:=xw hx17
     try simp only[dX,seval,Zb,q18]
     refine sp an hh (fun _ hh =>?_) (fun _ hh =>?_)
     ·obtain⟨x20,hx20,hh⟩:=ah hh
      obtain⟨q21a,q21b,q21c,q21d⟩:=iK (eI .i64) hx20
      simp only[bJ]at q21b
      obtain⟨x22,hx22,hh⟩:=ah hh
      have q23:=qW hx22
      cases hh
      try simp only[dX,seval,Zb,q18,q21a,q21b,q21c,q21d,q23]
      refine j5 ?_
      refine⟨v2b,e+1+1+1+1,?_,?_,?_,?_,?_,?_⟩
      all_goals first|rfl|(simp only[dX,seval,Zb,q18,q21a,q21b,q21c,q21d,q23]<;>rfl)
     ·obtain⟨x24,hx24,hh⟩:=ah hh
      obtain⟨q25a,q25b,q25c,q25d⟩:=iK (eI .i64) hx24
      simp only[bJ]at q25b
      obtain⟨x26,hx26,hh⟩:=ah hh
      have q27:=qW hx26
      cases hh
      try simp only[dX,seval,Zb,q18,q25a,q25b,q25c,q25d,q27]
      refine j5 ?_
      refine⟨v2b,e+1+1+1,?_,?_,?_,?_,?_,?_⟩
      all_goals first|rfl|(simp only[dX,seval,Zb,q18,q25a,q25b,q25c,q25d,q27]<;>rfl)
    ·cases hh
     try simp only[dX,seval,Zb]
     refine ll ?_
     refine⟨rfl,⟨v2b,v4b,?_,?_,?_,?_,?_⟩⟩
     all_goals first|rfl|(simp only[dX,seval,Zb]<;>rfl)
   ·rintro x t H e hx
    obtain⟨l4bx,rfl⟩:∃z,z=o15:=⟨_,rfl⟩
    dsimp only at hx hh
    obtain⟨rfl,⟨v2bx,v4bx,Zbx⟩⟩:=hx
    obtain⟨r28,hr28,hh⟩:=ah hh
    cases hh
    try simp only[dX,seval,Zbx,hr28]
  ·clear hh
   have hh:=ho2
   try simp only[dX,seval]
   refine sp an hh (fun _ hh =>?_) (fun _ hh =>?_)
   ·cases hh
    try simp only[dX,seval]
    rw[au]
    refine⟨_,rfl,?_⟩
    refine⟨0,?_,?_,?_,?_⟩
    all_goals first|rfl|(simp only[dX,seval]<;>rfl)
   ·cases hh
    try simp only[dX,seval]
    rw[au]
    refine⟨_,rfl,?_⟩
    refine⟨0,?_,?_,?_,?_⟩
    all_goals first|rfl|(simp only[dX,seval]<;>rfl)
theorem Tu:bW Try.prog 58 AK:=bW.of (mode := .clean) tok SS mixed Try.func58 (by kernel_rfl) ⟨by kernel_rfl,by kernel_rfl⟩ (fun _=>aej (by kernel_rfl)) (fun x r h=>Vz x r h)
noncomputable def kq:=fU (fQ (de eL)) (fun x:al=>eP x) (fun r:Bool =>.clean (.bool r))
theorem gX (p0_0:Int) (p0_1:(List Int)):kq none [.agg [.int .i64 p0_0,.sl false false p0_1.length (ae (eI .i64) p0_1)]]=(eP (al.mk p0_0 p0_1)).map fun r:Bool=>(.clean (.bool r),none):=aV _ _ _ ((al.mk p0_0 p0_1))
theorem LZ (p0:al) (r:Bool) (hh:eP p0=some r):a7 .clean tab a6 FU Try.f55 none [.agg [.int .i64 p0.ag,.sl false false p0.aa.length (ae (eI .i64) p0.aa)]]=some (.clean (.bool r),none):=by
 refine aB rfl Try.ntmps55 Try.results55 ?_
 unfold eP at hh
 try simp only[w,seval]
 obtain⟨o5,ho5,hh⟩:=ah hh
 refine aA (fun s t H e=>match s with|s3a=>∃v1a:Nat,t 1=.ptr 1 v1a 0∧t 3=.int .i64 s3a∧H 1=some ⟨v1a,39,[.int .i64 p0.ag,.sl false false p0.aa.length (ae (eI .i64) p0.aa)],false,false,false⟩) (fun o x t H e=>match o with|(.inl _)=>x=.exit 0∧∃v1ax:Nat,t 1=.ptr 1 v1ax 0∧H 1=some ⟨v1ax,39,[.int .i64 p0.ag,.sl false false p0.aa.length (ae (eI .i64) p0.aa)],false,false,false⟩|(.inr r)=>x=.ret∧jl .clean tab none [.tmp 2] ⟨t,EH H,e⟩=some (.clean (.bool r),none)) ho5 ?_ ?_ ?_
 ·refine⟨0,?_,?_,?_⟩
  all_goals first|rfl|(simp only[w,seval]<;>rfl)
 ·rintro s3a t H e ⟨v1a,Za⟩ c hh
  simp only[nL]at hh
  try simp only[w,seval,Za]
  refine sp an hh (fun _ hh =>?_) (fun _ hh =>?_)
  ·obtain⟨x7,hx7,hh⟩:=ah hh
   have ax7:=bN (eI .i64) hx7
   simp only[bJ]at ax7
   try simp only[w,seval,Za,ax7]
   refine sp bB hh (fun _ hh =>?_) (fun _ hh =>?_)
   ·cases hh
    try simp only[w,seval,Za,ax7]
    refine IZ ⟨rfl,?_⟩
    try simp only[w,seval,Za,ax7]
   ·have ax7:=bN (eI .i64) hx7
    simp only[bJ]at ax7
    try simp only[w,seval,Za,ax7,ax7]
    refine sp an hh (fun _ hh =>?_) (fun _ hh =>?_)
    ·cases hh
     try simp only[w,seval,Za,ax7,ax7]
     refine IZ ⟨rfl,?_⟩
     try simp only[w,seval,Za,ax7,ax7]
    ·cases hh
     try simp only[w,seval,Za,ax7,ax7]
     refine j5 ?_
     refine⟨v1a,?_,?_,?_⟩
     all_goals first|rfl|(simp only[w,seval,Za,ax7,ax7]<;>rfl)
  ·cases hh
   try simp only[w,seval,Za]
   refine ll ?_
   refine⟨rfl,⟨v1a,?_,?_⟩⟩
   all_goals first|rfl|(simp only[w,seval,Za]<;>rfl)
 ·rintro x t H e hx
  rcases o5 with _|ra
  ·dsimp only at hx hh
   obtain⟨rfl,⟨v1ax,Zax⟩⟩:=hx
   try simp only[w,seval,Zax]
   obtain⟨o10,ho10,hh⟩:=ah hh
   refine bS 0 (fun s t H e=>match s with|s44j2=>∃v1j2:Nat,t 1=.ptr 1 v1j2 0∧t 4=.int .i64 (p0.aa.length:Int)∧t 44=.bool s44j2∧H 1=some ⟨v1j2,39,[.int .i64 p0.ag,.sl false false p0.aa.length (ae (eI .i64) p0.aa)],false,false,false⟩) (fun s=>s=o10) ?_ ?_
   ·rintro s44j2 t H e ⟨v1j2,Zj2⟩ rfl
    try dsimp only at hh
    try simp only[w,seval,Zj2]
    refine sp an hh (fun _ hh =>?_) (fun _ hh =>?_)
    ·cases hh
     try simp only[w,seval,Zj2]
    ·try simp only[w,seval,Zj2]
     refine sp bB hh (fun _ hh =>?_) (fun _ hh =>?_)
     ·cases hh
      try simp only[w,seval,Zj2]
     ·obtain⟨x13,hx13,hh⟩:=ah hh
      have ax13:=bN (eI .i64) hx13
      simp only[bJ]at ax13
      cases hh
      try simp only[w,seval,Zj2,ax13]
   ·clear hh
    have hh:=ho10
    try simp only[w,seval,Zax]
    refine sp bB hh (fun _ hh =>?_) (fun _ hh =>?_)
    ·cases hh
     try simp only[w,seval,Zax]
     rw[au]
     refine⟨_,rfl,?_⟩
     refine⟨v1ax,?_,?_,?_,?_⟩
     all_goals first|rfl|(simp only[w,seval,Zax]<;>rfl)
    ·try simp only[w,seval,Zax]
     refine sp bB hh (fun _ hh =>?_) (fun _ hh =>?_)
     ·cases hh
      try simp only[w,seval,Zax]
      rw[au]
      refine⟨_,rfl,?_⟩
      refine⟨v1ax,?_,?_,?_,?_⟩
      all_goals first|rfl|(simp only[w,seval,Zax]<;>rfl)
     ·cases hh
      try simp only[w,seval,Zax]
      rw[au]
      refine⟨_,rfl,?_⟩
      refine⟨v1ax,?_,?_,?_,?_⟩
      all_goals first|rfl|(simp only[w,seval,Zax]<;>rfl)
  ·dsimp only at hx hh
   obtain⟨rfl,hE⟩:=hx
   cases hh
   try simp only[bP,bH,b7,eH,eE,dI,dJ]
   exact hE
theorem nH:bW Try.prog 55 kq:=bW.of (mode := .clean) tok bC.none mixed Try.func55 (by kernel_rfl) ⟨by kernel_rfl,by kernel_rfl⟩ (fun _=>aej (by kernel_rfl)) (fun x r h=>LZ x r h)
noncomputable def yc:=fU (fQ (de eL)) (fun x:al=>pF x) (fun r:al =>.clean (.agg [.int .i64 r.ag,.sl false false r.aa.length (ae (eI .i64) r.aa)]))
theorem GG (p0_0:Int) (p0_1:(List Int)):yc none [.agg [.int .i64 p0_0,.sl false false p0_1.length (ae (eI .i64) p0_1)]]=(pF (al.mk p0_0 p0_1)).map fun r:al=>(.clean (.agg [.int .i64 r.ag,.sl false false r.aa.length (ae (eI .i64) r.aa)]),none):=aV _ _ _ ((al.mk p0_0 p0_1))
noncomputable def uP:Env:=(Am.ext (Am.ext a6 55 false kq) 86 false lN)
theorem OC:bC Try.prog uP:=((bC.none.add nH false).add pt false)
theorem yU:type_of% (ai @w<|ai @gX<|ai @ja<|@uP.eq_1):=⟨@w,@gX,@ja,@uP.eq_1⟩
theorem Tg (p0:al) (r:al) (hh:pF p0=some r):a7 .clean tab uP FU Try.f100 none [.agg [.int .i64 p0.ag,.sl false false p0.aa.length (ae (eI .i64) p0.aa)]]=some (.clean (.agg [.int .i64 r.ag,.sl false false r.aa.length (ae (eI .i64) r.aa)]),none):=by
 refine aB rfl Try.ntmps100 Try.results100 ?_
 unfold pF at hh
 obtain⟨r1,hr1,hh⟩:=ah hh
 try simp only[yU,seval,hr1]
 refine sp an hh (fun _ hh =>?_) (fun _ hh =>?_)
 ·cases hh
  try simp only[yU,seval,hr1]
 ·obtain⟨r3,hr3,hh⟩:=ah hh
  cases hh
  try simp only[yU,seval,hr1,hr3]
theorem Pg:bW Try.prog 100 yc:=bW.of (mode := .clean) tok OC mixed Try.func100 (by kernel_rfl) ⟨by kernel_rfl,by kernel_rfl⟩ (fun _=>aej (by kernel_rfl)) (fun x r h=>Tg x r h)
noncomputable def kr:=fU (jg (mX (eI .i64)) (fQ (aI .i64))) (fun x:(List Int)×Int=>fV x.1 x.2) (fun r:Int =>.clean (.int .i64 r))
theorem gY (p0:(List Int)) (p1:Int):kr none [.sl false false p0.length (ae (eI .i64) p0),.int .i64 p1]=(fV p0 p1).map fun r:Int=>(.clean (.int .i64 r),none):=aV _ _ _ (p0,p1)
theorem L0 (p0:(List Int)) (p1:Int) (r:Int) (hh:fV p0 p1=some r):a7 .clean tab a6 FU Try.f109 none [.sl false false p0.length (ae (eI .i64) p0),.int .i64 p1]=some (.clean (.int .i64 r),none):=by
 refine aB rfl Try.ntmps109 Try.results109 ?_
 unfold fV at hh
 try simp only[w,seval]
 refine sp an hh (fun _ hh =>?_) (fun _ hh =>?_)
 ·obtain⟨x2,hx2,hh⟩:=ah hh
  have ax2:=bN (eI .i64) hx2
  simp only[bJ]at ax2
  cases hh
  try simp only[w,seval,ax2]
 ·cases hh
  try simp only[w,seval]
theorem nI:bW Try.prog 109 kr:=bW.of (mode := .clean) tok bC.none mixed Try.func109 (by kernel_rfl) ⟨by kernel_rfl,by kernel_rfl⟩ (fun _=>aej (by kernel_rfl)) (fun x r h=>L0 x.1 x.2 r h)
noncomputable def sS:=fU (jg (mX (eI .i64)) (fQ (mX (eI .i64)))) (fun x:(List Int)×(List Int)=>kI x.1 x.2) (fun r:(List Int) =>.clean (.sl false false r.length (ae (eI .i64) r)))
theorem tL (p0:(List Int)) (p1:(List Int)):sS none [.sl false false p0.length (ae (eI .i64) p0),.sl false false p1.length (ae (eI .i64) p1)]=(kI p0 p1).map fun r:(List Int)=>(.clean (.sl false false r.length (ae (eI .i64) r)),none):=aV _ _ _ (p0,p1)
noncomputable def pn:Env:=(Am.ext (Am.ext a6 106 false kb) 109 false kr)
theorem H0:bC Try.prog pn:=((bC.none.add mR false).add nI false)
theorem bL:type_of% (ai @w<|ai @fB<|ai @gY<|@pn.eq_1):=⟨@w,@fB,@gY,@pn.eq_1⟩
theorem L2 (p0:(List Int)) (p1:(List Int)) (r:(List Int)) (hh:kI p0 p1=some r):a7 .clean tab pn FU Try.f107 none [.sl false false p0.length (ae (eI .i64) p0),.sl false false p1.length (ae (eI .i64) p1)]=some (.clean (.sl false false r.length (ae (eI .i64) r)),none):=by
 refine aB rfl Try.ntmps107 Try.results107 ?_
 unfold kI at hh
 obtain⟨x1,hx1,hh⟩:=ah hh
 obtain⟨q2a,q2b,q2c,q2d,q2e⟩:=mk_one (eI .i64) hx1
 simp only[bJ]at q2d
 try simp only[bL,seval,q2a,q2b,q2c,q2d,q2e]
 obtain⟨o27,ho27,hh⟩:=ah hh
 refine aA (fun s t H e=>match s with|(s6a,l5a)=>∃v5a:Nat,t 0=.sl false false p0.length (ae (eI .i64) p0)∧t 1=.sl false false p1.length (ae (eI .i64) p1)∧t 5=.buf 5 v5a 1 0 (l5a).length∧t 6=.int .i64 s6a∧H 5=some ⟨v5a,3,ae (eI .i64) l5a,false,true,false⟩) (fun o x t H e=>match o with|l5ax=>x=.exit 0∧∃v5ax:Nat,t 5=.buf 5 v5ax 1 0 (l5ax).length∧H 5=some ⟨v5ax,3,ae (eI .i64) l5ax,false,true,false⟩) ho27 ?_ ?_ ?_
 ·refine⟨1,?_,?_,?_,?_,?_⟩
  all_goals first|rfl|(simp only[bL,seval,q2a,q2b,q2c,q2d,q2e]<;>rfl)
 ·rintro⟨s6a,l5a⟩ t H e ⟨v5a,Za⟩ c hh
  simp only[nN]at hh
  try simp only[bL,seval,q2a,q2b,q2c,q2d,q2e,Za]
  refine sp an hh (fun _ hh =>?_) (fun _ hh =>?_)
  ·try simp only[bL,seval,q2a,q2b,q2c,q2d,q2e,Za]
   obtain⟨o40,ho40,hh⟩:=ah hh
   refine aA (fun s t H e=>match s with|(s7e,s8e,l5e)=>∃v5e:Nat,t 0=.sl false false p0.length (ae (eI .i64) p0)∧t 1=.sl false false p1.length (ae (eI .i64) p1)∧t 5=.buf 5 v5e 1 0 (l5e).length∧t 6=.int .i64 s6a∧t 7=.int .i64 s7e∧t 8=.int .i64 s8e∧H 5=some ⟨v5e,3,ae (eI .i64) l5e,false,true,false⟩) (fun o x t H e=>match o with|l5ex=>x=.exit 2∧∃v5ex:Nat,t 0=.sl false false p0.length (ae (eI .i64) p0)∧t 1=.sl false false p1.length (ae (eI .i64) p1)∧t 5=.buf 5 v5ex 1 0 (l5ex).length∧t 6=.int .i64 s6a∧H 5=some ⟨v5ex,3,ae (eI .i64) l5ex,false,true,false⟩) ho40 ?_ ?_ ?_
   ·refine⟨v5a,?_,?_,?_,?_,?_,?_,?_⟩
    all_goals first|rfl|(simp only[bL,seval,q2a,q2b,q2c,q2d,q2e,Za]<;>rfl)
   ·rintro⟨s7e,s8e,l5e⟩ t H e ⟨v5e,Ze⟩ c hh
    simp only[nO]at hh
    try simp only[bL,seval,q2a,q2b,q2c,q2d,q2e,Ze]
    obtain⟨o41,ho41,hh⟩:=ah hh
    refine bS 0 (fun s t H e=>match s with|s29j7=>∃v5j7:Nat,t 0=.sl false false p0.length (ae (eI .i64) p0)∧t 1=.sl false false p1.length (ae (eI .i64) p1)∧t 5=.buf 5 v5j7 1 0 (l5e).length∧t 6=.int .i64 s6a∧t 7=.int .i64 s7e∧t 8=.int .i64 s8e∧t 29=.bool s29j7∧H 5=some ⟨v5j7,3,ae (eI .i64) l5e,false,true,false⟩) (fun s=>s=o41) ?_ ?_
    ·rintro s29j7 t H e ⟨v5j7,Zj7⟩ rfl
     try dsimp only at hh
     try simp only[bL,seval,q2a,q2b,q2c,q2d,q2e,Zj7]
     refine sp an hh (fun _ hh =>?_) (fun _ hh =>?_)
     ·obtain⟨x43,hx43,hh⟩:=ah hh
      have ax43:=bN (eI .i64) hx43
      simp only[bJ]at ax43
      obtain⟨x44,hx44,hh⟩:=ah hh
      have ax44:=bN (eI .i64) hx44
      simp only[bJ]at ax44
      obtain⟨r45,hr45,hh⟩:=ah hh
      try simp only[bL,seval,q2a,q2b,q2c,q2d,q2e,Zj7,ax43,ax44,hr45]
      refine bo (by kernel_rfl) ?_
      obtain⟨x46,hx46,hh⟩:=ah hh
      have q47:=xw hx46
      have ax43:=bN (eI .i64) hx43
      simp only[bJ]at ax43
      have p48:=eN (eI .i64) (x':=x46) (fo:=0) (cs:=[.int .i64 x46]) hx43 rfl (aej rfl)
      simp only[bJ,Nat.add_zero]at p48
      have up48:=p48
      simp only[putCells,List.length_cons,List.length_nil,adq,Nat.reduceAdd]at up48
      obtain⟨x49,hx49,hh⟩:=ah hh
      have q50:=qW hx49
      cases hh
      try simp only[bL,seval,q2a,q2b,q2c,q2d,q2e,Zj7,ax43,ax44,hr45,q47,ax43,p48,up48,q50]
      refine j5 ?_
      refine⟨v5j7,?_,?_,?_,?_,?_,?_,?_⟩
      all_goals first|rfl|(simp only[bL,seval,q2a,q2b,q2c,q2d,q2e,Zj7,ax43,ax44,hr45,q47,ax43,p48,up48,q50]<;>rfl)
     ·cases hh
      try simp only[bL,seval,q2a,q2b,q2c,q2d,q2e,Zj7]
      refine ll ?_
      refine⟨rfl,⟨v5j7,?_,?_,?_,?_,?_⟩⟩
      all_goals first|rfl|(simp only[bL,seval,q2a,q2b,q2c,q2d,q2e,Zj7]<;>rfl)
    ·clear hh
     have hh:=ho41
     try simp only[bL,seval,q2a,q2b,q2c,q2d,q2e,Ze]
     refine sp bB hh (fun _ hh =>?_) (fun _ hh =>?_)
     ·cases hh
      try simp only[bL,seval,q2a,q2b,q2c,q2d,q2e,Ze]
      rw[au]
      refine⟨_,rfl,?_⟩
      refine⟨v5e,?_,?_,?_,?_,?_,?_,?_,?_⟩
      all_goals first|rfl|(simp only[bL,seval,q2a,q2b,q2c,q2d,q2e,Ze]<;>rfl)
     ·cases hh
      try simp only[bL,seval,q2a,q2b,q2c,q2d,q2e,Ze]
      rw[au]
      refine⟨_,rfl,?_⟩
      refine⟨v5e,?_,?_,?_,?_,?_,?_,?_,?_⟩
      all_goals first|rfl|(simp only[bL,seval,q2a,q2b,q2c,q2d,q2e,Ze]<;>rfl)
   ·rintro x t H e hx
    obtain⟨l5ex,rfl⟩:∃z,z=o40:=⟨_,rfl⟩
    dsimp only at hx hh
    obtain⟨rfl,⟨v5ex,Zex⟩⟩:=hx
    cases hh
    try simp only[bL,seval,q2a,q2b,q2c,q2d,q2e,Zex]
    refine j5 ?_
    refine⟨v5ex,?_,?_,?_,?_,?_⟩
    all_goals first|rfl|(simp only[bL,seval,q2a,q2b,q2c,q2d,q2e,Zex]<;>rfl)
  ·cases hh
   try simp only[bL,seval,q2a,q2b,q2c,q2d,q2e,Za]
   refine ll ?_
   refine⟨rfl,⟨v5a,?_,?_⟩⟩
   all_goals first|rfl|(simp only[bL,seval,q2a,q2b,q2c,q2d,q2e,Za]<;>rfl)
 ·rintro x t H e hx
  obtain⟨l5ax,rfl⟩:∃z,z=o27:=⟨_,rfl⟩
  dsimp only at hx hh
  obtain⟨rfl,⟨v5ax,Zax⟩⟩:=hx
  obtain⟨r52,hr52,hh⟩:=ah hh
  cases hh
  try simp only[bL,seval,q2a,q2b,q2c,q2d,q2e,Zax,hr52]
theorem Iv:bW Try.prog 107 sS:=bW.of (mode := .clean) tok H0 mixed Try.func107 (by kernel_rfl) ⟨by kernel_rfl,by kernel_rfl⟩ (fun _=>aej (by kernel_rfl)) (fun x r h=>L2 x.1 x.2 r h)
noncomputable def wc:=fU (jg (mX (eI .i64)) (fQ (mX (eI .i64)))) (fun x:(List Int)×(List Int)=>oL x.1 x.2) (fun r:Bool =>.clean (.bool r))
theorem C9 (p0:(List Int)) (p1:(List Int)):wc none [.sl false false p0.length (ae (eI .i64) p0),.sl false false p1.length (ae (eI .i64) p1)]=(oL p0 p1).map fun r:Bool=>(.clean (.bool r),none):=aV _ _ _ (p0,p1)
noncomputable def rv:Env:=(Am.ext a6 109 false kr)
theorem KN:bC Try.prog rv:=(bC.none.add nI false)
theorem gB:type_of% (ai @w<|ai @gY<|@rv.eq_1):=⟨@w,@gY,@rv.eq_1⟩
theorem OY (p0:(List Int)) (p1:(List Int)) (r:Bool) (hh:oL p0 p1=some r):a7 .clean tab rv FU Try.f88 none [.sl false false p0.length (ae (eI .i64) p0),.sl false false p1.length (ae (eI .i64) p1)]=some (.clean (.bool r),none):=by
 refine aB rfl Try.ntmps88 Try.results88 ?_
 unfold oL at hh
 try simp only[gB,seval]
 obtain⟨o5,ho5,hh⟩:=ah hh
 refine aA (fun s t H e=>match s with|s5a=>t 0=.sl false false p0.length (ae (eI .i64) p0)∧t 1=.sl false false p1.length (ae (eI .i64) p1)∧t 5=.int .i64 s5a) (fun o x t H e=>match o with|(.inl _)=>x=.exit 0|(.inr r)=>x=.ret∧jl .clean tab none [.tmp 4] ⟨t,EH H,e⟩=some (.clean (.bool r),none)) ho5 ?_ ?_ ?_
 ·refine⟨?_,?_,?_⟩
  all_goals first|rfl|(simp only[gB,seval]<;>rfl)
 ·rintro s5a t H e Za c hh
  simp only[pG]at hh
  try simp only[gB,seval,Za]
  refine sp an hh (fun _ hh =>?_) (fun _ hh =>?_)
  ·obtain⟨r7,hr7,hh⟩:=ah hh
   obtain⟨r8,hr8,hh⟩:=ah hh
   try simp only[gB,seval,Za,hr7,hr8]
   refine sp an hh (fun _ hh =>?_) (fun _ hh =>?_)
   ·cases hh
    try simp only[gB,seval,Za,hr7,hr8]
    refine IZ ⟨rfl,?_⟩
    try simp only[gB,seval,Za,hr7,hr8]
   ·cases hh
    try simp only[gB,seval,Za,hr7,hr8]
    refine j5 ?_
    refine⟨?_,?_,?_⟩
    all_goals first|rfl|(simp only[gB,seval,Za,hr7,hr8]<;>rfl)
  ·cases hh
   try simp only[gB,seval,Za]
   refine ll ?_
   exact rfl
 ·rintro x t H e hx
  rcases o5 with _|ra
  ·dsimp only at hx hh
   subst hx
   cases hh
   try simp only[gB,seval]
  ·dsimp only at hx hh
   obtain⟨rfl,hE⟩:=hx
   cases hh
   try simp only[bP,bH,b7,eH,eE,dI,dJ]
   exact hE
theorem MD:bW Try.prog 88 wc:=bW.of (mode := .clean) tok KN mixed Try.func88 (by kernel_rfl) ⟨by kernel_rfl,by kernel_rfl⟩ (fun _=>aej (by kernel_rfl)) (fun x r h=>OY x.1 x.2 r h)
noncomputable def oU:=fU (jg (mX (eI .i64)) (fQ (mX (eI .i64)))) (fun x:(List Int)×(List Int)=>kH x.1 x.2) (fun r:(List Int) =>.clean (.sl false false r.length (ae (eI .i64) r)))
theorem pA (p0:(List Int)) (p1:(List Int)):oU none [.sl false false p0.length (ae (eI .i64) p0),.sl false false p1.length (ae (eI .i64) p1)]=(kH p0 p1).map fun r:(List Int)=>(.clean (.sl false false r.length (ae (eI .i64) r)),none):=aV _ _ _ (p0,p1)
noncomputable def pk:Env:=(Am.ext (Am.ext a6 106 false kb) 109 false kr)
theorem HZ:bC Try.prog pk:=((bC.none.add mR false).add nI false)
theorem ef:type_of% (ai @w<|ai @fB<|ai @gY<|@pk.eq_1):=⟨@w,@fB,@gY,@pk.eq_1⟩
theorem L1 (p0:(List Int)) (p1:(List Int)) (r:(List Int)) (hh:kH p0 p1=some r):a7 .clean tab pk FU Try.f108 none [.sl false false p0.length (ae (eI .i64) p0),.sl false false p1.length (ae (eI .i64) p1)]=some (.clean (.sl false false r.length (ae (eI .i64) r)),none):=by
 refine aB rfl Try.ntmps108 Try.results108 ?_
 unfold kH at hh
 try simp only[ef,seval]
 obtain⟨o9,ho9,hh⟩:=ah hh
 refine aA (fun s t H e=>match s with|(s6a,s7a,l5a)=>∃v5a:Nat,t 0=.sl false false p0.length (ae (eI .i64) p0)∧t 1=.sl false false p1.length (ae (eI .i64) p1)∧t 5=.buf 5 v5a 1 0 (l5a).length∧t 6=.int .i64 s6a∧t 7=.int .i64 s7a∧H 5=some ⟨v5a,3,ae (eI .i64) l5a,false,true,false⟩) (fun o x t H e=>match o with|l5ax=>x=.exit 0∧∃v5ax:Nat,t 5=.buf 5 v5ax 1 0 (l5ax).length∧H 5=some ⟨v5ax,3,ae (eI .i64) l5ax,false,true,false⟩) ho9 ?_ ?_ ?_
 ·refine⟨1,?_,?_,?_,?_,?_,?_⟩
  all_goals first|rfl|(simp only[ef,seval]<;>rfl)
 ·rintro⟨s6a,s7a,l5a⟩ t H e ⟨v5a,Za⟩ c hh
  simp only[nM]at hh
  try simp only[ef,seval,Za]
  refine sp an hh (fun _ hh =>?_) (fun _ hh =>?_)
  ·obtain⟨x11,hx11,hh⟩:=ah hh
   have ax11:=bN (eI .i64) hx11
   simp only[bJ]at ax11
   obtain⟨r12,hr12,hh⟩:=ah hh
   try simp only[ef,seval,Za,ax11,hr12]
   refine bo (by kernel_rfl) ?_
   try simp only[ef,seval,Za,ax11,hr12]
   refine sp an hh (fun _ hh =>?_) (fun _ hh =>?_)
   ·obtain⟨x14,hx14,hh⟩:=ah hh
    obtain⟨q15a,q15b,q15c,q15d⟩:=iK (eI .i64) hx14
    simp only[bJ]at q15b
    cases hh
    try simp only[ef,seval,Za,ax11,hr12,q15a,q15b,q15c,q15d]
    refine j5 ?_
    refine⟨e+1+1+1+1+1+1,?_,?_,?_,?_,?_,?_⟩
    all_goals first|rfl|(simp only[ef,seval,Za,ax11,hr12,q15a,q15b,q15c,q15d]<;>rfl)
   ·obtain⟨x16,hx16,hh⟩:=ah hh
    obtain⟨q17a,q17b,q17c,q17d⟩:=iK (eI .i64) hx16
    simp only[bJ]at q17b
    cases hh
    try simp only[ef,seval,Za,ax11,hr12,q17a,q17b,q17c,q17d]
    refine j5 ?_
    refine⟨e+1+1+1+1,?_,?_,?_,?_,?_,?_⟩
    all_goals first|rfl|(simp only[ef,seval,Za,ax11,hr12,q17a,q17b,q17c,q17d]<;>rfl)
  ·cases hh
   try simp only[ef,seval,Za]
   refine ll ?_
   refine⟨rfl,⟨v5a,?_,?_⟩⟩
   all_goals first|rfl|(simp only[ef,seval,Za]<;>rfl)
 ·rintro x t H e hx
  obtain⟨l5ax,rfl⟩:∃z,z=o9:=⟨_,rfl⟩
  dsimp only at hx hh
  obtain⟨rfl,⟨v5ax,Zax⟩⟩:=hx
  obtain⟨r18,hr18,hh⟩:=ah hh
  cases hh
  try simp only[ef,seval,Zax,hr18]
theorem xC:bW Try.prog 108 oU:=bW.of (mode := .clean) tok HZ mixed Try.func108 (by kernel_rfl) ⟨by kernel_rfl,by kernel_rfl⟩ (fun _=>aej (by kernel_rfl)) (fun x r h=>L1 x.1 x.2 r h)
noncomputable def qD:=fU (jg (mX (eI .i64)) (fQ (mX (eI .i64)))) (fun x:(List Int)×(List Int)=>mS x.1 x.2) (fun r:(List Int)×(List Int) =>.clean (.tup [.sl false false r.1.length (ae (eI .i64) r.1),.sl false false r.2.length (ae (eI .i64) r.2)]))
theorem rP (p0:(List Int)) (p1:(List Int)):qD none [.sl false false p0.length (ae (eI .i64) p0),.sl false false p1.length (ae (eI .i64) p1)]=(mS p0 p1).map fun r:(List Int)×(List Int)=>(.clean (.tup [.sl false false r.1.length (ae (eI .i64) r.1),.sl false false r.2.length (ae (eI .i64) r.2)]),none):=aV _ _ _ (p0,p1)
noncomputable def rA:Env:=(Am.keep 7 (Am.ext (Am.ext (Am.ext (Am.ext a6 88 false wc) 106 false kb) 107 false sS) 108 false oU))
theorem KP:bC Try.prog rA:=(bC.keep ((((bC.none.add MD false).add mR false).add Iv false).add xC false) 7)
theorem cO:type_of% (ai @w<|ai @C9<|ai @fB<|ai @tL<|ai @pA<|@rA.eq_1):=⟨@w,@C9,@fB,@tL,@pA,@rA.eq_1⟩
theorem O0 (p0:(List Int)) (p1:(List Int)) (r:(List Int)×(List Int)) (hh:mS p0 p1=some r):a7 .clean tab rA FU Try.f85 none [.sl false false p0.length (ae (eI .i64) p0),.sl false false p1.length (ae (eI .i64) p1)]=some (.clean (.tup [.sl false false r.1.length (ae (eI .i64) r.1),.sl false false r.2.length (ae (eI .i64) r.2)]),none):=by
 refine aB rfl Try.ntmps85 Try.results85 ?_
 unfold mS at hh
 obtain⟨x1,hx1,hh⟩:=ah hh
 obtain⟨q2a,q2b,q2c,q2d,q2e⟩:=mk_one (eI .i64) hx1
 simp only[bJ]at q2d
 try simp only[cO,seval,q2a,q2b,q2c,q2d,q2e]
 obtain⟨o29,ho29,hh⟩:=ah hh
 refine aA (fun s t H e=>match s with|(s7a,s8a,l6a)=>∃v6a:Nat,t 0=.sl false false p0.length (ae (eI .i64) p0)∧t 1=.sl false false p1.length (ae (eI .i64) p1)∧t 6=.buf 6 v6a 1 0 (l6a).length∧t 7=.sl false false s7a.length (ae (eI .i64) s7a)∧t 8=.int .i64 s8a∧H 6=some ⟨v6a,3,ae (eI .i64) l6a,false,true,false⟩) (fun o x t H e=>match o with|(s7ax,l6ax)=>x=.exit 0∧∃v6ax:Nat,t 6=.buf 6 v6ax 1 0 (l6ax).length∧t 7=.sl false false s7ax.length (ae (eI .i64) s7ax)∧H 6=some ⟨v6ax,3,ae (eI .i64) l6ax,false,true,false⟩) ho29 ?_ ?_ ?_
 ·refine⟨1,?_,?_,?_,?_,?_,?_⟩
  all_goals first|rfl|(simp only[cO,seval,q2a,q2b,q2c,q2d,q2e]<;>rfl)
 ·rintro⟨s7a,s8a,l6a⟩ t H e ⟨v6a,Za⟩ c hh
  simp only[pH]at hh
  try simp only[cO,seval,q2a,q2b,q2c,q2d,q2e,Za]
  refine sp an hh (fun _ hh =>?_) (fun _ hh =>?_)
  ·obtain⟨x31,hx31,hh⟩:=ah hh
   have ax31:=bN (eI .i64) hx31
   simp only[bJ]at ax31
   obtain⟨x32,hx32,hh⟩:=ah hh
   obtain⟨q33a,q33b,q33c,q33d⟩:=Xa (eI .i64) hx32
   simp only[aK,bJ,List.length_cons,adq,Nat.reduceAdd]at q33a q33b
   obtain⟨r34,hr34,hh⟩:=ah hh
   try simp only[cO,seval,q2a,q2b,q2c,q2d,q2e,Za,ax31,q33a,q33b,q33c,q33d,hr34]
   obtain⟨o42,ho42,hh⟩:=ah hh
   refine aA (fun s t H e=>match s with|(s9c,s10c)=>∃v6c:Nat,t 0=.sl false false p0.length (ae (eI .i64) p0)∧t 1=.sl false false p1.length (ae (eI .i64) p1)∧t 6=.buf 6 v6c 1 0 (l6a).length∧t 7=.sl false false r34.length (ae (eI .i64) r34)∧t 8=.int .i64 s8a∧t 9=.int .i64 s9c∧t 10=.int .i64 s10c∧H 6=some ⟨v6c,3,ae (eI .i64) l6a,false,true,false⟩) (fun o x t H e=>match o with|s9cx=>x=.exit 2∧∃v6cx:Nat,t 0=.sl false false p0.length (ae (eI .i64) p0)∧t 1=.sl false false p1.length (ae (eI .i64) p1)∧t 6=.buf 6 v6cx 1 0 (l6a).length∧t 7=.sl false false r34.length (ae (eI .i64) r34)∧t 8=.int .i64 s8a∧t 9=.int .i64 s9cx∧H 6=some ⟨v6cx,3,ae (eI .i64) l6a,false,true,false⟩) ho42 ?_ ?_ ?_
   ·refine⟨v6a,?_,?_,?_,?_,?_,?_,?_,?_⟩
    all_goals first|rfl|(simp only[cO,seval,q2a,q2b,q2c,q2d,q2e,Za,ax31,q33a,q33b,q33c,q33d,hr34]<;>rfl)
   ·rintro⟨s9c,s10c⟩ t H e ⟨v6c,Zc⟩ c hh
    simp only[mT]at hh
    try simp only[cO,seval,q2a,q2b,q2c,q2d,q2e,ax31,q33a,q33b,q33c,q33d,hr34,Zc]
    refine sp an hh (fun _ hh =>?_) (fun _ hh =>?_)
    ·obtain⟨x44,hx44,hh⟩:=ah hh
     have q45:=qW hx44
     have i46:=tL p1 ([x44])
     simp only[aK,bJ,List.length_cons,List.length_nil,adq,Nat.reduceAdd,aeB]at i46
     obtain⟨r47,hr47,hh⟩:=ah hh
     obtain⟨r48,hr48,hh⟩:=ah hh
     try simp only[cO,seval,q2a,q2b,q2c,q2d,q2e,ax31,q33a,q33b,q33c,q33d,hr34,Zc,q45,i46,hr47,hr48]
     refine sp an hh (fun _ hh =>?_) (fun _ hh =>?_)
     ·cases hh
      try simp only[cO,seval,q2a,q2b,q2c,q2d,q2e,ax31,q33a,q33b,q33c,q33d,hr34,Zc,q45,i46,hr47,hr48]
      refine j5 ?_
      refine⟨v6c,?_,?_,?_,?_,?_,?_,?_,?_⟩
      all_goals first|rfl|(simp only[cO,seval,q2a,q2b,q2c,q2d,q2e,ax31,q33a,q33b,q33c,q33d,hr34,Zc,q45,i46,hr47,hr48]<;>rfl)
     ·cases hh
      try simp only[cO,seval,q2a,q2b,q2c,q2d,q2e,ax31,q33a,q33b,q33c,q33d,hr34,Zc,q45,i46,hr47,hr48]
      refine j5 ?_
      refine⟨v6c,?_,?_,?_,?_,?_,?_,?_,?_⟩
      all_goals first|rfl|(simp only[cO,seval,q2a,q2b,q2c,q2d,q2e,ax31,q33a,q33b,q33c,q33d,hr34,Zc,q45,i46,hr47,hr48]<;>rfl)
    ·cases hh
     try simp only[cO,seval,q2a,q2b,q2c,q2d,q2e,ax31,q33a,q33b,q33c,q33d,hr34,Zc]
     refine ll ?_
     refine⟨rfl,⟨v6c,?_,?_,?_,?_,?_,?_,?_⟩⟩
     all_goals first|rfl|(simp only[cO,seval,q2a,q2b,q2c,q2d,q2e,ax31,q33a,q33b,q33c,q33d,hr34,Zc]<;>rfl)
   ·rintro x t H e hx
    obtain⟨s9cx,rfl⟩:∃z,z=o42:=⟨_,rfl⟩
    dsimp only at hx hh
    obtain⟨rfl,⟨v6cx,Zcx⟩⟩:=hx
    obtain⟨x50,hx50,hh⟩:=ah hh
    have ax50:=bN (eI .i64) hx50
    simp only[bJ]at ax50
    have p51:=eN (eI .i64) (x':=s9cx) (fo:=0) (cs:=[.int .i64 s9cx]) hx50 rfl (aej rfl)
    simp only[bJ,Nat.add_zero]at p51
    have up51:=p51
    simp only[putCells,List.length_cons,List.length_nil,adq,Nat.reduceAdd]at up51
    have i52:=fB ([s9cx])
    simp only[aK,bJ,List.length_cons,List.length_nil,adq,Nat.reduceAdd,aeB]at i52
    obtain⟨r53,hr53,hh⟩:=ah hh
    obtain⟨r54,hr54,hh⟩:=ah hh
    obtain⟨r55,hr55,hh⟩:=ah hh
    cases hh
    try simp only[cO,seval,q2a,q2b,q2c,q2d,q2e,ax31,q33a,q33b,q33c,q33d,hr34,Zcx,ax50,p51,up51,i52,hr53,hr54,hr55]
    refine j5 ?_
    refine⟨v6cx,?_,?_,?_,?_,?_,?_⟩
    all_goals first|rfl|(simp only[cO,seval,q2a,q2b,q2c,q2d,q2e,ax31,q33a,q33b,q33c,q33d,hr34,Zcx,ax50,p51,up51,i52,hr53,hr54,hr55]<;>rfl)
  ·cases hh
   try simp only[cO,seval,q2a,q2b,q2c,q2d,q2e,Za]
   refine ll ?_
   refine⟨rfl,⟨v6a,?_,?_,?_⟩⟩
   all_goals first|rfl|(simp only[cO,seval,q2a,q2b,q2c,q2d,q2e,Za]<;>rfl)
 ·rintro x t H e hx
  rcases o29 with⟨s7ax,l6ax⟩
  dsimp only at hx hh
  obtain⟨rfl,⟨v6ax,Zax⟩⟩:=hx
  obtain⟨r56,hr56,hh⟩:=ah hh
  cases hh
  try simp only[cO,seval,q2a,q2b,q2c,q2d,q2e,Zax,hr56]
theorem zG:bW Try.prog 85 qD:=bW.of (mode := .clean) tok KP mixed Try.func85 (by kernel_rfl) ⟨by kernel_rfl,by kernel_rfl⟩ (fun _=>aej (by kernel_rfl)) (fun x r h=>O0 x.1 x.2 r h)
noncomputable def yb:=fU (jg (de eL) (fQ (de eL))) (fun x:al×al=>pE x.1 x.2) (fun r:al×Int =>.clean (.tup [.agg [.int .i64 r.1.ag,.sl false false r.1.aa.length (ae (eI .i64) r.1.aa)],.int .i64 r.2]))
theorem GF (p0_0:Int) (p0_1:(List Int)) (p1_0:Int) (p1_1:(List Int)):yb none [.agg [.int .i64 p0_0,.sl false false p0_1.length (ae (eI .i64) p0_1)],.agg [.int .i64 p1_0,.sl false false p1_1.length (ae (eI .i64) p1_1)]]=(pE (al.mk p0_0 p0_1) (al.mk p1_0 p1_1)).map fun r:al×Int=>(.clean (.tup [.agg [.int .i64 r.1.ag,.sl false false r.1.aa.length (ae (eI .i64) r.1.aa)],.int .i64 r.2]),none):=aV _ _ _ ((al.mk p0_0 p0_1),(al.mk p1_0 p1_1))
noncomputable def uO:Env:=(Am.ext (Am.ext (Am.ext a6 55 false kq) 85 false qD) 86 false lN)
theorem OB:bC Try.prog uO:=(((bC.none.add nH false).add zG false).add pt false)
theorem ec:type_of% (ai @w<|ai @gX<|ai @rP<|ai @ja<|@uO.eq_1):=⟨@w,@gX,@rP,@ja,@uO.eq_1⟩
theorem Tf (p0:al) (p1:al) (r:al×Int) (hh:pE p0 p1=some r):a7 .clean tab uO FU Try.f56 none [.agg [.int .i64 p0.ag,.sl false false p0.aa.length (ae (eI .i64) p0.aa)],.agg [.int .i64 p1.ag,.sl false false p1.aa.length (ae (eI .i64) p1.aa)]]=some (.clean (.tup [.agg [.int .i64 r.1.ag,.sl false false r.1.aa.length (ae (eI .i64) r.1.aa)],.int .i64 r.2]),none):=by
 refine aB rfl Try.ntmps56 Try.results56 ?_
 unfold pE at hh
 obtain⟨r1,hr1,hh⟩:=ah hh
 try simp only[ec,seval,hr1]
 obtain⟨o2,ho2,hh⟩:=ah hh
 refine bS 0 (fun s t H e=>match s with|s17j1=>∃v2j1:Nat,∃v3j1:Nat,∃v4j1:Nat,t 2=.ptr 2 v2j1 0∧t 3=.ptr 3 v3j1 0∧t 4=.ptr 4 v4j1 0∧t 17=.bool s17j1∧H 2=some ⟨v2j1,39,[.int .i64 p0.ag,.sl false false p0.aa.length (ae (eI .i64) p0.aa)],false,false,false⟩∧H 3=some ⟨v3j1,39,[.int .i64 p1.ag,.sl false false p1.aa.length (ae (eI .i64) p1.aa)],false,false,false⟩∧H 4=some ⟨v4j1,39,[.int .i64 0,.sl true true 0 []],false,false,false⟩) (fun s=>s=o2) ?_ ?_
 ·rintro s17j1 t H e ⟨v2j1,v3j1,v4j1,Zj1⟩ rfl
  try dsimp only at hh
  try simp only[ec,seval,hr1,Zj1]
  refine sp an hh (fun _ hh =>?_) (fun _ hh =>?_)
  ·cases hh
   try simp only[ec,seval,hr1,Zj1]
  ·try simp only[ec,seval,hr1,Zj1]
   obtain⟨o6,ho6,hh⟩:=ah hh
   refine aA (fun s t H e=>match s with|(s6b,s7b)=>∃v4b:Nat,t 4=.ptr 4 v4b 0∧t 6=.sl false false s6b.length (ae (eI .i64) s6b)∧t 7=.sl false false s7b.length (ae (eI .i64) s7b)∧H 4=some ⟨v4b,39,[.int .i64 0,.sl true true 0 []],false,false,false⟩) (fun o x t H e=>match o with|s6bx=>x=.exit 0∧∃v4bx:Nat,t 4=.ptr 4 v4bx 0∧t 6=.sl false false s6bx.length (ae (eI .i64) s6bx)∧H 4=some ⟨v4bx,39,[.int .i64 0,.sl true true 0 []],false,false,false⟩) ho6 ?_ ?_ ?_
   ·refine⟨v4j1,?_,?_,?_,?_⟩
    all_goals first|rfl|(simp only[ec,seval,hr1,Zj1]<;>rfl)
   ·rintro⟨s6b,s7b⟩ t H e ⟨v4b,Zb⟩ c hh
    simp only[oK]at hh
    try simp only[ec,seval,hr1,Zb]
    refine sp an hh (fun _ hh =>?_) (fun _ hh =>?_)
    ·obtain⟨r8,hr8,hh⟩:=ah hh
     cases hh
     try simp only[ec,seval,hr1,Zb,hr8]
     refine j5 ?_
     refine⟨v4b,?_,?_,?_,?_⟩
     all_goals first|rfl|(simp only[ec,seval,hr1,Zb,hr8]<;>rfl)
    ·cases hh
     try simp only[ec,seval,hr1,Zb]
     refine ll ?_
     refine⟨rfl,⟨v4b,?_,?_,?_⟩⟩
     all_goals first|rfl|(simp only[ec,seval,hr1,Zb]<;>rfl)
   ·rintro x t H e hx
    obtain⟨s6bx,rfl⟩:∃z,z=o6:=⟨_,rfl⟩
    dsimp only at hx hh
    obtain⟨rfl,⟨v4bx,Zbx⟩⟩:=hx
    obtain⟨r9,hr9,hh⟩:=ah hh
    cases hh
    try simp only[ec,seval,hr1,Zbx,hr9]
 ·clear hh
  have hh:=ho2
  try simp only[ec,seval,hr1]
  refine sp bB hh (fun _ hh =>?_) (fun _ hh =>?_)
  ·cases hh
   try simp only[ec,seval,hr1]
   rw[au]
   refine⟨_,rfl,?_⟩
   refine⟨0,0,0,?_,?_,?_,?_,?_,?_,?_⟩
   all_goals first|rfl|(simp only[ec,seval,hr1]<;>rfl)
  ·obtain⟨r11,hr11,hh⟩:=ah hh
   cases hh
   try simp only[ec,seval,hr1,hr11]
   rw[au]
   refine⟨_,rfl,?_⟩
   refine⟨0,0,0,?_,?_,?_,?_,?_,?_,?_⟩
   all_goals first|rfl|(simp only[ec,seval,hr1,hr11]<;>rfl)
theorem Pf:bW Try.prog 56 yb:=bW.of (mode := .clean) tok OB mixed Try.func56 (by kernel_rfl) ⟨by kernel_rfl,by kernel_rfl⟩ (fun _=>aej (by kernel_rfl)) (fun x r h=>Tf x.1 x.2 r h)
noncomputable def we:=fU (jg (mX (eI .i64)) (fQ (mX (eI .i64)))) (fun x:(List Int)×(List Int)=>tN x.1 x.2) (fun r:(List Int) =>.clean (.sl false false r.length (ae (eI .i64) r)))
theorem wI (p0:(List Int)) (p1:(List Int)):we none [.sl false false p0.length (ae (eI .i64) p0),.sl false false p1.length (ae (eI .i64) p1)]=(tN p0 p1).map fun r:(List Int)=>(.clean (.sl false false r.length (ae (eI .i64) r)),none):=aV _ _ _ (p0,p1)
noncomputable def rB:Env:=(Am.ext (Am.ext a6 106 false kb) 109 false kr)
theorem KQ:bC Try.prog rB:=((bC.none.add mR false).add nI false)
theorem cZ:type_of% (ai @w<|ai @fB<|ai @gY<|@rB.eq_1):=⟨@w,@fB,@gY,@rB.eq_1⟩
theorem O1 (p0:(List Int)) (p1:(List Int)) (r:(List Int)) (hh:tN p0 p1=some r):a7 .clean tab rB FU Try.f116 none [.sl false false p0.length (ae (eI .i64) p0),.sl false false p1.length (ae (eI .i64) p1)]=some (.clean (.sl false false r.length (ae (eI .i64) r)),none):=by
 refine aB rfl Try.ntmps116 Try.results116 ?_
 unfold tN at hh
 try simp only[cZ,seval]
 obtain⟨o13,ho13,hh⟩:=ah hh
 refine aA (fun s t H e=>match s with|(s6a,s7a,l5a)=>∃v5a:Nat,t 0=.sl false false p0.length (ae (eI .i64) p0)∧t 1=.sl false false p1.length (ae (eI .i64) p1)∧t 5=.buf 5 v5a 1 0 (l5a).length∧t 6=.int .i64 s6a∧t 7=.int .i64 s7a∧H 5=some ⟨v5a,3,ae (eI .i64) l5a,false,true,false⟩) (fun o x t H e=>match o with|l5ax=>x=.exit 0∧∃v5ax:Nat,t 5=.buf 5 v5ax 1 0 (l5ax).length∧H 5=some ⟨v5ax,3,ae (eI .i64) l5ax,false,true,false⟩) ho13 ?_ ?_ ?_
 ·refine⟨1,?_,?_,?_,?_,?_,?_⟩
  all_goals first|rfl|(simp only[cZ,seval]<;>rfl)
 ·rintro⟨s6a,s7a,l5a⟩ t H e ⟨v5a,Za⟩ c hh
  simp only[zO]at hh
  try simp only[cZ,seval,Za]
  obtain⟨o14,ho14,hh⟩:=ah hh
  refine bS 0 (fun s t H e=>match s with|s22j3=>∃v5j3:Nat,t 0=.sl false false p0.length (ae (eI .i64) p0)∧t 1=.sl false false p1.length (ae (eI .i64) p1)∧t 5=.buf 5 v5j3 1 0 (l5a).length∧t 6=.int .i64 s6a∧t 7=.int .i64 s7a∧t 22=.bool s22j3∧H 5=some ⟨v5j3,3,ae (eI .i64) l5a,false,true,false⟩) (fun s=>s=o14) ?_ ?_
  ·rintro s22j3 t H e ⟨v5j3,Zj3⟩ rfl
   try dsimp only at hh
   try simp only[cZ,seval,Zj3]
   refine sp an hh (fun _ hh =>?_) (fun _ hh =>?_)
   ·obtain⟨r16,hr16,hh⟩:=ah hh
    obtain⟨r17,hr17,hh⟩:=ah hh
    obtain⟨x18,hx18,hh⟩:=ah hh
    have q19:=xw hx18
    obtain⟨x20,hx20,hh⟩:=ah hh
    obtain⟨q21a,q21b,q21c,q21d⟩:=iK (eI .i64) hx20
    simp only[bJ]at q21b
    obtain⟨x22,hx22,hh⟩:=ah hh
    have q23:=qW hx22
    cases hh
    try simp only[cZ,seval,Zj3,hr16,hr17,q19,q21a,q21b,q21c,q21d,q23]
    refine j5 ?_
    refine⟨e+1,?_,?_,?_,?_,?_,?_⟩
    all_goals first|rfl|(simp only[cZ,seval,Zj3,hr16,hr17,q19,q21a,q21b,q21c,q21d,q23]<;>rfl)
   ·cases hh
    try simp only[cZ,seval,Zj3]
    refine ll ?_
    refine⟨rfl,⟨v5j3,?_,?_⟩⟩
    all_goals first|rfl|(simp only[cZ,seval,Zj3]<;>rfl)
  ·clear hh
   have hh:=ho14
   try simp only[cZ,seval,Za]
   refine sp bB hh (fun _ hh =>?_) (fun _ hh =>?_)
   ·cases hh
    try simp only[cZ,seval,Za]
    rw[au]
    refine⟨_,rfl,?_⟩
    refine⟨v5a,?_,?_,?_,?_,?_,?_,?_⟩
    all_goals first|rfl|(simp only[cZ,seval,Za]<;>rfl)
   ·try simp only[cZ,seval,Za]
    refine sp bB hh (fun _ hh =>?_) (fun _ hh =>?_)
    ·cases hh
     try simp only[cZ,seval,Za]
     rw[au]
     refine⟨_,rfl,?_⟩
     refine⟨v5a,?_,?_,?_,?_,?_,?_,?_⟩
     all_goals first|rfl|(simp only[cZ,seval,Za]<;>rfl)
    ·cases hh
     try simp only[cZ,seval,Za]
     rw[au]
     refine⟨_,rfl,?_⟩
     refine⟨v5a,?_,?_,?_,?_,?_,?_,?_⟩
     all_goals first|rfl|(simp only[cZ,seval,Za]<;>rfl)
 ·rintro x t H e hx
  obtain⟨l5ax,rfl⟩:∃z,z=o13:=⟨_,rfl⟩
  dsimp only at hx hh
  obtain⟨rfl,⟨v5ax,Zax⟩⟩:=hx
  obtain⟨r26,hr26,hh⟩:=ah hh
  cases hh
  try simp only[cZ,seval,Zax,hr26]
theorem ME:bW Try.prog 116 we:=bW.of (mode := .clean) tok KQ mixed Try.func116 (by kernel_rfl) ⟨by kernel_rfl,by kernel_rfl⟩ (fun _=>aej (by kernel_rfl)) (fun x r h=>O1 x.1 x.2 r h)
noncomputable def x4:=fU (jg (de eL) (fQ (de eL))) (fun x:al×al=>mr x.1 x.2) (fun r:al×al×Int =>.clean (.tup [.agg [.int .i64 r.1.ag,.sl false false r.1.aa.length (ae (eI .i64) r.1.aa)],.agg [.int .i64 r.2.1.ag,.sl false false r.2.1.aa.length (ae (eI .i64) r.2.1.aa)],.int .i64 r.2.2]))
theorem GD (p0_0:Int) (p0_1:(List Int)) (p1_0:Int) (p1_1:(List Int)):x4 none [.agg [.int .i64 p0_0,.sl false false p0_1.length (ae (eI .i64) p0_1)],.agg [.int .i64 p1_0,.sl false false p1_1.length (ae (eI .i64) p1_1)]]=(mr (al.mk p0_0 p0_1) (al.mk p1_0 p1_1)).map fun r:al×al×Int=>(.clean (.tup [.agg [.int .i64 r.1.ag,.sl false false r.1.aa.length (ae (eI .i64) r.1.aa)],.agg [.int .i64 r.2.1.ag,.sl false false r.2.1.aa.length (ae (eI .i64) r.2.1.aa)],.int .i64 r.2.2]),none):=aV _ _ _ ((al.mk p0_0 p0_1),(al.mk p1_0 p1_1))
noncomputable def uN:Env:=(Am.ext (Am.ext (Am.ext (Am.ext (Am.ext a6 55 false kq) 85 false qD) 86 false lN) 108 false oU) 116 false we)
theorem OA:bC Try.prog uN:=(((((bC.none.add nH false).add zG false).add pt false).add xC false).add ME false)
theorem cK:type_of% (ai @w<|ai @gX<|ai @rP<|ai @ja<|ai @pA<|ai @wI<|@uN.eq_1):=⟨@w,@gX,@rP,@ja,@pA,@wI,@uN.eq_1⟩
theorem Te (p0:al) (p1:al) (r:al×al×Int) (hh:mr p0 p1=some r):a7 .clean tab uN FU Try.f101 none [.agg [.int .i64 p0.ag,.sl false false p0.aa.length (ae (eI .i64) p0.aa)],.agg [.int .i64 p1.ag,.sl false false p1.aa.length (ae (eI .i64) p1.aa)]]=some (.clean (.tup [.agg [.int .i64 r.1.ag,.sl false false r.1.aa.length (ae (eI .i64) r.1.aa)],.agg [.int .i64 r.2.1.ag,.sl false false r.2.1.aa.length (ae (eI .i64) r.2.1.aa)],.int .i64 r.2.2]),none):=by
 refine aB rfl Try.ntmps101 Try.results101 ?_
 unfold mr at hh
 obtain⟨r1,hr1,hh⟩:=ah hh
 try simp only[cK,seval,hr1]
 obtain⟨o2,ho2,hh⟩:=ah hh
 refine bS 0 (fun s t H e=>match s with|s16j1=>∃v2j1:Nat,∃v3j1:Nat,∃v4j1:Nat,∃v5j1:Nat,t 2=.ptr 2 v2j1 0∧t 3=.ptr 3 v3j1 0∧t 4=.ptr 4 v4j1 0∧t 5=.ptr 5 v5j1 0∧t 16=.bool s16j1∧H 2=some ⟨v2j1,39,[.int .i64 p0.ag,.sl false false p0.aa.length (ae (eI .i64) p0.aa)],false,false,false⟩∧H 3=some ⟨v3j1,39,[.int .i64 p1.ag,.sl false false p1.aa.length (ae (eI .i64) p1.aa)],false,false,false⟩∧H 4=some ⟨v4j1,39,[.int .i64 0,.sl true true 0 []],false,false,false⟩∧H 5=some ⟨v5j1,39,[.int .i64 0,.sl true true 0 []],false,false,false⟩) (fun s=>s=o2) ?_ ?_
 ·rintro s16j1 t H e ⟨v2j1,v3j1,v4j1,v5j1,Zj1⟩ rfl
  try dsimp only at hh
  try simp only[cK,seval,hr1,Zj1]
  refine sp an hh (fun _ hh =>?_) (fun _ hh =>?_)
  ·cases hh
   try simp only[cK,seval,hr1,Zj1]
  ·try simp only[cK,seval,hr1,Zj1]
   refine sp an hh (fun _ hh =>?_) (fun _ hh =>?_)
   ·cases hh
    try simp only[cK,seval,hr1,Zj1]
   ·obtain⟨r5,hr5,hh⟩:=ah hh
    try simp only[cK,seval,hr1,Zj1,hr5]
    obtain⟨o6,ho6,hh⟩:=ah hh
    refine bS 0 (fun s t H e=>match s with|s42j2=>∃v2j2:Nat,∃v3j2:Nat,∃v4j2:Nat,∃v5j2:Nat,t 2=.ptr 2 v2j2 0∧t 3=.ptr 3 v3j2 0∧t 4=.ptr 4 v4j2 0∧t 5=.ptr 5 v5j2 0∧t 7=.sl false false r5.1.length (ae (eI .i64) r5.1)∧t 8=.sl false false r5.2.length (ae (eI .i64) r5.2)∧t 42=.bool s42j2∧H 2=some ⟨v2j2,39,[.int .i64 p0.ag,.sl false false p0.aa.length (ae (eI .i64) p0.aa)],false,false,false⟩∧H 3=some ⟨v3j2,39,[.int .i64 p1.ag,.sl false false p1.aa.length (ae (eI .i64) p1.aa)],false,false,false⟩∧H 4=some ⟨v4j2,39,[.int .i64 0,.sl true true 0 []],false,false,false⟩∧H 5=some ⟨v5j2,39,[.int .i64 0,.sl true true 0 []],false,false,false⟩) (fun s=>s=o6) ?_ ?_
    ·rintro s42j2 t H e ⟨v2j2,v3j2,v4j2,v5j2,Zj2⟩ rfl
     try dsimp only at hh
     try simp only[cK,seval,hr1,hr5,Zj2]
     refine sp an hh (fun _ hh =>?_) (fun _ hh =>?_)
     ·obtain⟨r8,hr8,hh⟩:=ah hh
      obtain⟨r9,hr9,hh⟩:=ah hh
      try simp only[cK,seval,hr1,hr5,Zj2,hr8,hr9]
      refine bo (by kernel_rfl) ?_
      cases hh
      try simp only[cK,seval,hr1,hr5,Zj2,hr8,hr9]
     ·have i10:=wI r5.1 ([1])
      simp only[aK,bJ,List.length_cons,List.length_nil,adq,Nat.reduceAdd,aeB]at i10
      obtain⟨r11,hr11,hh⟩:=ah hh
      obtain⟨r12,hr12,hh⟩:=ah hh
      obtain⟨r13,hr13,hh⟩:=ah hh
      obtain⟨r14,hr14,hh⟩:=ah hh
      try simp only[cK,seval,hr1,hr5,Zj2,i10,hr11,hr12,hr13,hr14]
      refine bo (by kernel_rfl) ?_
      cases hh
      try simp only[cK,seval,hr1,hr5,Zj2,i10,hr11,hr12,hr13,hr14]
    ·clear hh
     have hh:=ho6
     try simp only[cK,seval,hr1,Zj1,hr5]
     refine sp bB hh (fun _ hh =>?_) (fun _ hh =>?_)
     ·cases hh
      try simp only[cK,seval,hr1,Zj1,hr5]
      rw[au]
      refine⟨_,rfl,?_⟩
      refine⟨v2j1,v3j1,v4j1,v5j1,?_,?_,?_,?_,?_,?_,?_,?_,?_,?_,?_⟩
      all_goals first|rfl|(simp only[cK,seval,hr1,Zj1,hr5]<;>rfl)
     ·cases hh
      try simp only[cK,seval,hr1,Zj1,hr5]
      rw[au]
      refine⟨_,rfl,?_⟩
      refine⟨v2j1,v3j1,v4j1,v5j1,?_,?_,?_,?_,?_,?_,?_,?_,?_,?_,?_⟩
      all_goals first|rfl|(simp only[cK,seval,hr1,Zj1,hr5]<;>rfl)
 ·clear hh
  have hh:=ho2
  try simp only[cK,seval,hr1]
  refine sp bB hh (fun _ hh =>?_) (fun _ hh =>?_)
  ·cases hh
   try simp only[cK,seval,hr1]
   rw[au]
   refine⟨_,rfl,?_⟩
   refine⟨0,0,0,0,?_,?_,?_,?_,?_,?_,?_,?_,?_⟩
   all_goals first|rfl|(simp only[cK,seval,hr1]<;>rfl)
  ·obtain⟨r17,hr17,hh⟩:=ah hh
   cases hh
   try simp only[cK,seval,hr1,hr17]
   rw[au]
   refine⟨_,rfl,?_⟩
   refine⟨0,0,0,0,?_,?_,?_,?_,?_,?_,?_,?_,?_⟩
   all_goals first|rfl|(simp only[cK,seval,hr1,hr17]<;>rfl)
theorem Pe:bW Try.prog 101 x4:=bW.of (mode := .clean) tok OA mixed Try.func101 (by kernel_rfl) ⟨by kernel_rfl,by kernel_rfl⟩ (fun _=>aej (by kernel_rfl)) (fun x r h=>Te x.1 x.2 r h)
noncomputable def yd:=fU (jg (de eL) (fQ (de eL))) (fun x:al×al=>rR x.1 x.2) (fun r:ak×Int =>.clean (.tup [.agg [.int .i64 r.1.aH.ag,.sl false false r.1.aH.aa.length (ae (eI .i64) r.1.aH.aa),.int .i64 r.1.aJ.ag,.sl false false r.1.aJ.aa.length (ae (eI .i64) r.1.aJ.aa)],.int .i64 r.2]))
theorem GH (p0_0:Int) (p0_1:(List Int)) (p1_0:Int) (p1_1:(List Int)):yd none [.agg [.int .i64 p0_0,.sl false false p0_1.length (ae (eI .i64) p0_1)],.agg [.int .i64 p1_0,.sl false false p1_1.length (ae (eI .i64) p1_1)]]=(rR (al.mk p0_0 p0_1) (al.mk p1_0 p1_1)).map fun r:ak×Int=>(.clean (.tup [.agg [.int .i64 r.1.aH.ag,.sl false false r.1.aH.aa.length (ae (eI .i64) r.1.aH.aa),.int .i64 r.1.aJ.ag,.sl false false r.1.aJ.aa.length (ae (eI .i64) r.1.aJ.aa)],.int .i64 r.2]),none):=aV _ _ _ ((al.mk p0_0 p0_1),(al.mk p1_0 p1_1))
noncomputable def uR:Env:=(Am.ext (Am.ext (Am.ext (Am.ext a6 55 false kq) 56 false yb) 100 false yc) 101 false x4)
theorem OE:bC Try.prog uR:=((((bC.none.add nH false).add Pf false).add Pg false).add Pe false)
theorem dM:type_of% (ai @w<|ai @gX<|ai @GF<|ai @GG<|ai @GD<|@uR.eq_1):=⟨@w,@gX,@GF,@GG,@GD,@uR.eq_1⟩
theorem Tj (p0:al) (p1:al) (r:ak×Int) (hh:rR p0 p1=some r):a7 .clean tab uR FU Try.f74 none [.agg [.int .i64 p0.ag,.sl false false p0.aa.length (ae (eI .i64) p0.aa)],.agg [.int .i64 p1.ag,.sl false false p1.aa.length (ae (eI .i64) p1.aa)]]=some (.clean (.tup [.agg [.int .i64 r.1.aH.ag,.sl false false r.1.aH.aa.length (ae (eI .i64) r.1.aH.aa),.int .i64 r.1.aJ.ag,.sl false false r.1.aJ.aa.length (ae (eI .i64) r.1.aJ.aa)],.int .i64 r.2]),none):=by
 refine aB rfl Try.ntmps74 Try.results74 ?_
 unfold rR at hh
 obtain⟨r1,hr1,hh⟩:=ah hh
 try simp only[dM,seval,hr1]
 obtain⟨o2,ho2,hh⟩:=ah hh
 refine bS 0 (fun s t H e=>match s with|s21j1=>∃v2j1:Nat,∃v3j1:Nat,∃v4j1:Nat,t 2=.ptr 2 v2j1 0∧t 3=.ptr 3 v3j1 0∧t 4=.ptr 4 v4j1 0∧t 21=.bool s21j1∧H 2=some ⟨v2j1,39,[.int .i64 p0.ag,.sl false false p0.aa.length (ae (eI .i64) p0.aa)],false,false,false⟩∧H 3=some ⟨v3j1,39,[.int .i64 p1.ag,.sl false false p1.aa.length (ae (eI .i64) p1.aa)],false,false,false⟩∧H 4=some ⟨v4j1,41,[.int .i64 0,.sl true true 0 [],.int .i64 0,.sl true true 0 []],false,false,false⟩) (fun s=>s=o2) ?_ ?_
 ·rintro s21j1 t H e ⟨v2j1,v3j1,v4j1,Zj1⟩ rfl
  try dsimp only at hh
  try simp only[dM,seval,hr1,Zj1]
  refine sp an hh (fun _ hh =>?_) (fun _ hh =>?_)
  ·cases hh
   try simp only[dM,seval,hr1,Zj1]
  ·try simp only[dM,seval,hr1,Zj1]
   refine sp an hh (fun _ hh =>?_) (fun _ hh =>?_)
   ·cases hh
    try simp only[dM,seval,hr1,Zj1]
   ·try simp only[dM,seval,hr1,Zj1]
    obtain⟨o5,ho5,hh⟩:=ah hh
    refine jW 0 (fun s t H e=>match s with|(r2_0j2,r2_1j2,r3_0j2,r3_1j2)=>∃v2j2:Nat,∃v3j2:Nat,∃v4j2:Nat,t 2=.ptr 2 v2j2 0∧t 3=.ptr 3 v3j2 0∧t 4=.ptr 4 v4j2 0∧H 2=some ⟨v2j2,39,[.int .i64 r2_0j2,.sl false false r2_1j2.length (ae (eI .i64) r2_1j2)],false,false,false⟩∧H 3=some ⟨v3j2,39,[.int .i64 r3_0j2,.sl false false r3_1j2.length (ae (eI .i64) r3_1j2)],false,false,false⟩∧H 4=some ⟨v4j2,41,[.int .i64 0,.sl true true 0 [],.int .i64 0,.sl true true 0 []],false,false,false⟩) (fun s=>s=o5) ?_ ?_
    ·rintro⟨r2_0j2,r2_1j2,r3_0j2,r3_1j2⟩ t H e ⟨v2j2,v3j2,v4j2,Zj2⟩ rfl
     try dsimp only at hh
     obtain⟨r6,hr6,hh⟩:=ah hh
     obtain⟨r7,hr7,hh⟩:=ah hh
     obtain⟨r8,hr8,hh⟩:=ah hh
     cases hh
     try simp only[dM,seval,hr1,Zj2,hr6,hr7,hr8]
    ·clear hh
     have hh:=ho5
     try simp only[dM,seval,hr1,Zj1]
     refine sp an hh (fun _ hh =>?_) (fun _ hh =>?_)
     ·obtain⟨r10,hr10,hh⟩:=ah hh
      obtain⟨r11,hr11,hh⟩:=ah hh
      cases hh
      try simp only[dM,seval,hr1,Zj1,hr10,hr11]
      rw[au]
      refine⟨_,rfl,?_⟩
      refine⟨v2j1,v3j1,v4j1,?_,?_,?_,?_,?_,?_⟩
      all_goals first|rfl|(simp only[dM,seval,hr1,Zj1,hr10,hr11]<;>rfl)
     ·cases hh
      try simp only[dM,seval,hr1,Zj1]
      rw[au]
      refine⟨_,rfl,?_⟩
      refine⟨v2j1,v3j1,v4j1,?_,?_,?_,?_,?_,?_⟩
      all_goals first|rfl|(simp only[dM,seval,hr1,Zj1]<;>rfl)
 ·clear hh
  have hh:=ho2
  try simp only[dM,seval,hr1]
  refine sp bB hh (fun _ hh =>?_) (fun _ hh =>?_)
  ·cases hh
   try simp only[dM,seval,hr1]
   rw[au]
   refine⟨_,rfl,?_⟩
   refine⟨0,0,0,?_,?_,?_,?_,?_,?_,?_⟩
   all_goals first|rfl|(simp only[dM,seval,hr1]<;>rfl)
  ·obtain⟨r13,hr13,hh⟩:=ah hh
   cases hh
   try simp only[dM,seval,hr1,hr13]
   rw[au]
   refine⟨_,rfl,?_⟩
   refine⟨0,0,0,?_,?_,?_,?_,?_,?_,?_⟩
   all_goals first|rfl|(simp only[dM,seval,hr1,hr13]<;>rfl)
theorem Ph:bW Try.prog 74 yd:=bW.of (mode := .clean) tok OE mixed Try.func74 (by kernel_rfl) ⟨by kernel_rfl,by kernel_rfl⟩ (fun _=>aej (by kernel_rfl)) (fun x r h=>Tj x.1 x.2 r h)
noncomputable def wV:=fU (jg (aI .i64) (fQ (aI .i64))) (fun x:Int×Int=>tP x.1 x.2) (fun r:ak×Int =>.clean (.tup [.agg [.int .i64 r.1.aH.ag,.sl false false r.1.aH.aa.length (ae (eI .i64) r.1.aH.aa),.int .i64 r.1.aJ.ag,.sl false false r.1.aJ.aa.length (ae (eI .i64) r.1.aJ.aa)],.int .i64 r.2]))
end Go.Proofs.Ytchndpjlijbplaa.Am
