/- Part of a proof. -/
import Derived.Test.YtchndpjlijbplaaIc
set_option linter.unusedSimpArgs false
set_option linter.unusedVariables false
noncomputable section
namespace Go.Proofs.Ytchndpjlijbplaa.Am
open Go.RowKit Go.Proofs.Ytchndpjlijbplaa.P
section
variable {T:Nat->Option Ty} {Γ:Env} {N F e:Nat} {Q Q':Kt} {t:Nat->D} {h:Nat->Option Row}
theorem iz (hm:∀x t h e,Q x t h e->Q' x t h e):∀(ws:List W) (x:Ex) (t:Nat->D) (h:Nat->Option Row) (e:Nat),cB T Γ N F ws Q x t h e->cB T Γ N F ws Q' x t h e
 | [],x,t,h,e,hk=>hm _ _ _ _ hk
 | .code c::ws,x,t,h,e,hk=>by
  unfold cB at hk ⊢
  cases x with
  | normal=>exact VK c t h e _ _ hk (fun x t h e hx=>iz hm ws x t h e hx)
  | exit n=>exact iz hm ws _ t h e hk
  | ret=>exact iz hm ws _ t h e hk
 | .blk id::ws,x,t,h,e,hk=>by
  unfold cB Wn at hk ⊢
  cases x with
  | normal=>exact iz hm ws _ t h e hk
  | exit n =>
   simp only at hk ⊢
   split at hk
   ·rename_i hn;rw[if_pos hn];exact iz hm ws _ t h e hk
   ·rename_i hn;rw[if_neg hn];exact iz hm ws _ t h e hk
  | ret=>exact iz hm ws _ t h e hk
theorem pP:∀(ws:List W) (k:Nat),cB T Γ N F ws Q=cB T Γ N F (ws.take k) (cB T Γ N F (ws.drop k) Q)
 | ws,0=>by simp[cB]
 | [],k+1=>by simp[cB]
 | .code c::ws,k+1=>by
  rw[agG,agF]
  funext x t h e
  unfold cB
  rw[pP ws k]
 | .blk id::ws,k+1=>by
  rw[agG,agF]
  funext x t h e
  unfold cB
  rw[pP ws k]
variable {σ:Type} {ops l:List Oper} {ws:List W} {dst:Option Nat} {fs:List kx} {d:D} {g:Nat}
theorem sY {J:σ->(Nat->D)->(Nat->Option Row)->Nat->Prop} {P:σ->Prop} {R:Kt} (hrest:∀s t h e,J s t h e->P s->R .normal t h e):∀x t h e,CK J P R x t h e->R x t h e:=by
 intro x t h e hx
 cases x with
 | normal=>obtain⟨s,h1,h2⟩:=hx;exact hrest s t h e h2 h1
 | exit n=>exact hx
 | ret=>exact hx
theorem wb (hm:∀x t h e,Q x t h e->Q' x t h e) (hk:ln T Γ N F ops l ws Q t h e):ln T Γ N F ops l ws Q' t h e:=we (fun t h hh=>iz hm ws _ _ _ _ hh) _ _ _ hk
theorem wc (hm:∀x t h e,Q x t h e->Q' x t h e) (hk:lp T Γ N F ops l ws Q t h e fs):lp T Γ N F ops l ws Q' t h e fs:=wa (fun t h fs hh=>⟨hh.1,iz hm ws _ _ _ _ hh.2⟩) _ _ _ _ hk
theorem sP (k:Nat):ln T Γ N F ops l ws Q t h e=ln T Γ N F ops l (ws.take k) (cB T Γ N F (ws.drop k) Q) t h e:=by unfold ln;rw[pP ws k]
theorem sQ (k:Nat):lp T Γ N F ops l ws Q t h e fs=lp T Γ N F ops l (ws.take k) (cB T Γ N F (ws.drop k) Q) t h e fs:=by unfold lp;rw[pP ws k]
theorem GS (k:Nat) {o:Oper} : po T Γ N F o ops l ws Q t h e=po T Γ N F o ops l (ws.take k) (cB T Γ N F (ws.drop k) Q) t h e:=by
 unfold po
 congr 1
 funext t E
 rw[sP k]
theorem G1 (k:Nat) {o:Oper} : pq T Γ N F o ops l ws Q t h e fs=pq T Γ N F o ops l (ws.take k) (cB T Γ N F (ws.drop k) Q) t h e fs:=by
 unfold pq
 congr 1
 funext t E
 rw[sQ k]
theorem LW {o:Oper} (hm:∀x t h e,Q x t h e->Q' x t h e) (hk:po T Γ N F o ops l ws Q t h e):po T Γ N F o ops l ws Q' t h e:=zj hk fun _ _ hh=>wb hm hh
theorem L2 {o:Oper} (hm:∀x t h e,Q x t h e->Q' x t h e) (hk:pq T Γ N F o ops l ws Q t h e fs):pq T Γ N F o ops l ws Q' t h e fs:=zj hk fun _ _ hh=>wc hm hh
variable (k:Nat) (J:σ->(Nat->D)->(Nat->Option Row)->Nat->Prop) (P:σ->Prop)
theorem je {x y:Code} (hrest:∀s t h e,J s t h e->P s->cB T Γ N F (ws.drop k) Q .normal t h e) (hc:KB T Γ N F d g x y (ws.take k) (CK J P (cB T Γ N F (ws.drop k) Q)) t h e):KB T Γ N F d g x y ws Q t h e:=by
 unfold KB at hc ⊢
 have e1:∀c:Code,cB T Γ N F (.code c::ws) Q=cB T Γ N F (.code c::ws.take k) (cB T Γ N F (ws.drop k) Q):=fun c=>pP (.code c::ws) (k+1)
 rw[e1,e1]
 exact zh hc (fun _ hh=>iz (sY hrest) _ _ _ _ _ hh) (fun _ hh=>iz (sY hrest) _ _ _ _ _ hh)
theorem bP {want:Bool} {o:Oper} (hrest:∀s t h e,J s t h e->P s->cB T Γ N F (ws.drop k) Q .normal t h e) (hc:wE T Γ N F d g want o ops l (ws.take k) (CK J P (cB T Γ N F (ws.drop k) Q)) t h e):wE T Γ N F d g want o ops l ws Q t h e:=by
 unfold wE at hc ⊢
 refine Fo hc (fun t hh =>?_) (fun t hh =>?_) (fun t hh =>?_)
 ·cases want
  ·simp only[afo,if_false]at hh ⊢;rw[sP k];exact wb (sY hrest) hh
  ·simp only[if_true]at hh ⊢;rw[GS k];exact LW (sY hrest) hh
 ·cases want
  ·simp only[afo,if_false]at hh ⊢;rw[GS k];exact LW (sY hrest) hh
  ·simp only[if_true]at hh ⊢;rw[sP k];exact wb (sY hrest) hh
 ·rw[sP k];exact wb (sY hrest) hh
theorem YW {want:Bool} {o:Oper} (hrest:∀s t h e,J s t h e->P s->cB T Γ N F (ws.drop k) Q .normal t h e) (hc:wF T Γ N F d g want o ops l (ws.take k) (CK J P (cB T Γ N F (ws.drop k) Q)) t h e fs):wF T Γ N F d g want o ops l ws Q t h e fs:=by
 unfold wF at hc ⊢
 refine Fo hc (fun t hh =>?_) (fun t hh =>?_) (fun t hh =>?_)
 ·cases want
  ·simp only[afo,if_false]at hh ⊢;rw[sQ k];exact wc (sY hrest) hh
  ·simp only[if_true]at hh ⊢;rw[G1 k];exact L2 (sY hrest) hh
 ·cases want
  ·simp only[afo,if_false]at hh ⊢;rw[G1 k];exact L2 (sY hrest) hh
  ·simp only[if_true]at hh ⊢;rw[sQ k];exact wc (sY hrest) hh
 ·rw[sQ k];exact wc (sY hrest) hh
end
def mkW {α β γ:Type} (ty:Nat) (E:jf γ) (A:lO α) (F:List γ->α->Option (List γ×β)) (R:β->RK):Option (D×Row)->List D->Option (RK×Option Row):=fun lent ds =>
 match lent with
 | some (.buf 0 0 s o n,⟨0,ty',cells,false,true,false⟩)=>open Classical in
  if h:ty'=ty∧s=E.size∧∃p:List D×List γ×List D×α,cells=p.1++(ae E p.2.1++p.2.2.1)∧o=p.1.length∧n=p.2.1.length∧ds=A.ds p.2.2.2 then
   (F (Classical.choose h.2.2).2.1 (Classical.choose h.2.2).2.2.2).map fun r=>(R r.2,some ⟨0,ty,(Classical.choose h.2.2).1++(ae E r.1++(Classical.choose h.2.2).2.2.1),false,true,false⟩)
  else none
 | _=>none
theorem Ui {γ:Type} {E:jf γ} {p p' q q':List D} {l l':List γ} (h:p++(ae E l++q)=p'++(ae E l'++q')) (hp:p.length=p'.length) (hl:l.length=l'.length):p=p'∧l=l'∧q=q':=by
 obtain⟨h1,h2⟩:=agH h hp
 obtain⟨h3,h4⟩:=agH h2 (by rw[bQ,bQ,hl])
 exact⟨h1,uu E _ _ h3,h4⟩
theorem abP {α β γ:Type} (ty:Nat) (E:jf γ) (A:lO α) (F:List γ->α->Option (List γ×β)) (R:β->RK) (pre post:List D) (l:List γ) (a:α) :
  mkW ty E A F R (some (.buf 0 0 E.size pre.length l.length,⟨0,ty,pre++(ae E l++post),false,true,false⟩)) (A.ds a)=(F l a).map fun r=>(R r.2,some ⟨0,ty,pre++(ae E r.1++post),false,true,false⟩):=by
 have h:ty=ty∧E.size=E.size∧∃p:List D×List γ×List D×α,pre++(ae E l++post)=p.1++(ae E p.2.1++p.2.2.1)∧pre.length=p.1.length∧l.length=p.2.1.length∧A.ds a=A.ds p.2.2.2:=⟨rfl,rfl,(pre,l,post,a),rfl,rfl,rfl,rfl⟩
 simp only[mkW]
 rw[dif_pos h]
 obtain⟨h1,h2,h3,h4⟩:=Classical.choose_spec h.2.2
 obtain⟨e1,e2,e3⟩:=Ui h1 h2 h3
 rw[<- A.inj _ _ h4,<- e1,<- e2,<- e3]
theorem XL {α β γ:Type} {ty:Nat} {E:jf γ} {A:lO α} {F:List γ->α->Option (List γ×β)} {R:β->RK} {lent:Option (D×Row)} {ds:List D} {rk:RK} {out:Option Row} (h:mkW ty E A F R lent ds=some (rk,out)) :
  ∃pre l post a l' r,lent=some (.buf 0 0 E.size pre.length l.length,⟨0,ty,pre++(ae E l++post),false,true,false⟩)∧ds=A.ds a∧F l a=some (l',r)∧rk=R r∧out=some ⟨0,ty,pre++(ae E l'++post),false,true,false⟩:=by
 unfold mkW at h
 split at h
 ·split at h
  ·rename_i he
   obtain⟨rfl,rfl,he⟩:=he
   rw[aeM]at h
   obtain⟨⟨l',r⟩,h1,h2⟩:=h
   simp only[Prod.mk.injEq]at h2
   obtain⟨rfl,rfl⟩:=h2
   obtain⟨g1,g2,g3,g4⟩:=Classical.choose_spec he
   refine⟨_,_,_,_,l',r,?_,g4,h1,rfl,rfl⟩
   rw[<- g1,<- g2,<- g3]
  ·cases h
 ·cases h
theorem bT.acL {P:Program} {T:Nat->Option Ty} {Γ:Env} (hT:kq P T) (hΓ:bq P Γ) (hm:P.follows .mixedOrders=true) {α β γ:Type} {ty:Nat} {E:jf γ} {A:lO α} {F:List γ->α->Option (List γ×β)} {R:β->RK} {mode:Mode} {f:FuncId} {fn:Func} (hf:P.funcs[f]? = some fn) (hok:(match fn.body with|some c=>codeOk c|none=>true)=true)
  (hc:(fn.name == "runtime.NumGoroutine")=false∧fn.body.isNone=false) (hn:∀a,(A.ds a).length+1<=fn.ntmps)
  (h:∀pre post l a l' r,F l a=some (l',r)->a6 mode T Γ FU fn (some (.buf 0 0 E.size pre.length l.length,⟨0,ty,pre++(ae E l++post),false,true,false⟩)) (A.ds a)=some (R r,some ⟨0,ty,pre++(ae E l'++post),false,true,false⟩)):bT P f (mkW ty E A F R) where
 calls lent aeJ rk out hg:=by
  obtain⟨pre,l,post,a,l',r,rfl,rfl,hr,rfl,rfl⟩:=XL hg
  exact lH hT hΓ hm hf hok (hn a) rfl (h pre post l a l' r hr)
 callable:=⟨fn,hf,hc⟩
def mkE {α γ:Type} (ty:Nat) (E:jf γ) (A:lO α) (F:List γ->α->Option (List γ)):Option (D×Row)->List D->Option (RK×Option Row):=fun lent ds =>
 match lent with
 | some (.buf 0 0 s o n,⟨0,ty',cells,false,true,false⟩)=>open Classical in
  if h:ty'=ty∧s=E.size∧∃p:List D×List γ×List D×α,cells=p.1++(ae E p.2.1++p.2.2.1)∧o=p.1.length∧n=p.2.1.length∧ds=A.ds p.2.2.2 then
   (F (Classical.choose h.2.2).2.1 (Classical.choose h.2.2).2.2.2).map fun r=>(.fresh ty E.size r.length (ae E r),none)
  else none
 | _=>none
theorem XJ {α γ:Type} (ty:Nat) (E:jf γ) (A:lO α) (F:List γ->α->Option (List γ)) (pre post:List D) (l:List γ) (a:α) :
  mkE ty E A F (some (.buf 0 0 E.size pre.length l.length,⟨0,ty,pre++(ae E l++post),false,true,false⟩)) (A.ds a)=(F l a).map fun r=>(.fresh ty E.size r.length (ae E r),none):=by
 have h:ty=ty∧E.size=E.size∧∃p:List D×List γ×List D×α,pre++(ae E l++post)=p.1++(ae E p.2.1++p.2.2.1)∧pre.length=p.1.length∧l.length=p.2.1.length∧A.ds a=A.ds p.2.2.2:=⟨rfl,rfl,(pre,l,post,a),rfl,rfl,rfl,rfl⟩
 simp only[mkE]
 rw[dif_pos h]
 obtain⟨h1,h2,h3,h4⟩:=Classical.choose_spec h.2.2
 obtain⟨e1,e2,e3⟩:=Ui h1 h2 h3
 rw[<- A.inj _ _ h4,<- e2]
theorem N3 {α γ:Type} {ty:Nat} {E:jf γ} {A:lO α} {F:List γ->α->Option (List γ)} {lent:Option (D×Row)} {ds:List D} {rk:RK} {out:Option Row} (h:mkE ty E A F lent ds=some (rk,out)) :
  ∃pre l post a r,lent=some (.buf 0 0 E.size pre.length l.length,⟨0,ty,pre++(ae E l++post),false,true,false⟩)∧ds=A.ds a∧F l a=some r∧rk=.fresh ty E.size r.length (ae E r)∧out=none:=by
 unfold mkE at h
 split at h
 ·split at h
  ·rename_i he
   obtain⟨rfl,rfl,he⟩:=he
   rw[aeM]at h
   obtain⟨r,h1,h2⟩:=h
   simp only[Prod.mk.injEq]at h2
   obtain⟨rfl,rfl⟩:=h2
   obtain⟨g1,g2,g3,g4⟩:=Classical.choose_spec he
   refine⟨(Classical.choose he).1,(Classical.choose he).2.1,(Classical.choose he).2.2.1,(Classical.choose he).2.2.2,r,?_,g4,h1,rfl,rfl⟩
   rw[<- g1,<- g2,<- g3]
  ·cases h
 ·cases h
theorem bT.acK {P:Program} {T:Nat->Option Ty} {Γ:Env} (hT:kq P T) (hΓ:bq P Γ) (hm:P.follows .mixedOrders=true) {α γ:Type} {ty:Nat} {E:jf γ} {A:lO α} {F:List γ->α->Option (List γ)} {f:FuncId} {fn:Func} (hf:P.funcs[f]? = some fn) (hok:(match fn.body with|some c=>codeOk c|none=>true)=true)
  (hc:(fn.name == "runtime.NumGoroutine")=false∧fn.body.isNone=false) (hn:∀a,(A.ds a).length+1<=fn.ntmps)
  (h:∀pre post l a r,F l a=some r->a6 (.fresh ty E.size) T Γ FU fn (some (.buf 0 0 E.size pre.length l.length,⟨0,ty,pre++(ae E l++post),false,true,false⟩)) (A.ds a)=some (.fresh ty E.size r.length (ae E r),none)):bT P f (mkE ty E A F) where
 calls lent aeJ rk out hg:=by
  obtain⟨pre,l,post,a,r,rfl,rfl,hr,rfl,rfl⟩:=N3 hg
  exact lH hT hΓ hm hf hok (hn a) rfl (h pre post l a r hr)
 callable:=⟨fn,hf,hc⟩
section
variable {h:Nat->Option Row} {Γ:Env} {g e x v d:Nat} {dst:Option Nat} {fr:List Nat} {aeJ rest:List D} {d0:D} {T:Nat->Option Ty} {rs:List ResultVar}
def K8 (h:Nat->Option Row) (e:Nat) (dst:Option Nat) (x v:Nat) (fr:List Nat):Option (RK×Option Row)->Option bM
 | some (.clean c,some r1)=>some ⟨c,iX h fr++[(x,some { r1 with v:=v })]⟩
 | some (.same s o n,some r1)=>some ⟨.buf x v s o n,iX h fr++[(x,some { r1 with v:=v })]⟩
 | some (.fresh ty s n cells,none) =>
  match dst with
  | some d=>if fr.contains d=false then some ⟨.buf d e s 0 n,iX h fr++[(x,none),(d,some ⟨e,ty,cells,false,true,false⟩)]⟩ else none
  | none=>none
 | _=>none
def Wt (Γ:Env) (h:Nat->Option Row) (e:Nat) (dst:Option Nat) (g x v:Nat) (d0:D) (r:Row):Option (List D×List Nat)->Option bM
 | some (aeJ,fr)=>if fr.contains x=false then K8 h e dst x v fr (Γ.sem g (some (d0,r)) aeJ) else none
 | none=>none
def Ws (Γ:Env) (h:Nat->Option Row) (e:Nat) (dst:Option Nat) (g x v:Nat) (d0:D) (rest:List D):Option Row->Option bM
 | some r=>if r.fz=false then Wt Γ h e dst g x v d0 { r with v:=0 } (bk h rest) else none
 | none=>none
theorem K9 {s o n:Nat} : CC true Γ h e dst g (.buf x v s o n::rest)=Ws Γ h e dst g x v (.buf 0 0 s o n) rest (live h x v):=by
 simp only[CC,if_true,s8]
 cases live h x v with
 | none=>rfl
 | some r =>
  simp only[Ws]
  cases bk h rest with
  | none=>rfl
  | some p=>rfl
theorem CF {r:Row} : Ws Γ h e dst g x v d0 rest (some r)=if r.fz=false then Wt Γ h e dst g x v d0 { r with v:=0 } (bk h rest) else none:=ahv
theorem CG {r:Row} : Wt Γ h e dst g x v d0 r (some (aeJ,fr))=if fr.contains x=false then K8 h e dst x v fr (Γ.sem g (some (d0,r)) aeJ) else none:=ahv
theorem Ax {c:D} {v' ty:Nat} {cells:List D} {fz lst:Bool} : K8 h e dst x v fr (some (.clean c,some ⟨v',ty,cells,fz,lst,false⟩))=some ⟨c,iX h fr++[(x,some ⟨v,ty,cells,fz,lst,false⟩)]⟩:=ahv
theorem CH {s o n v' ty:Nat} {cells:List D} {fz lst:Bool} : K8 h e dst x v fr (some (.same s o n,some ⟨v',ty,cells,fz,lst,false⟩))=some ⟨.buf x v s o n,iX h fr++[(x,some ⟨v,ty,cells,fz,lst,false⟩)]⟩:=ahv
theorem Ay {s n ty:Nat} {cells:List D} : K8 h e (some d) x v fr (some (.fresh ty s n cells,none))=if fr.contains d=false then some ⟨.buf d e s 0 n,iX h fr++[(x,none),(d,some ⟨e,ty,cells,false,true,false⟩)]⟩ else none:=ahv
theorem AX {ty sz i:Nat} {t:Nat->D} {l:D×Row} : iP (.fresh ty sz) T (some l) [.tmp i] ⟨t,h,e⟩=mT ty sz h (t i):=ahv
def acB (y v s o:Nat):Option Row->Option Ty->Option (Nat×Nat)->Option bM
 | some _,some φ,some (l,k)=>if φ.size=s∧0<s then some ⟨.buf y v s (o+l*s) (k-l),[]⟩ else none
 | _,_,_=>none
theorem Hd {y v s o l k:Nat} {r:Row} {φ:Ty} : acB y v s o (some r) (some φ) (some (l,k))=if φ.size=s∧0<s then some ⟨.buf y v s (o+l*s) (k-l),[]⟩ else none:=ahv
theorem SW {el b c y v s o n:Nat} {z:List Value} {q:Bool} {lo hi:Option D} : cr T ⟨.slice el,b,c,z,q⟩ h (.buf y v s o n) lo hi none=acB y v s o (live h y v) (T el) (tX n lo hi):=by
 simp only[cr]
 cases live h y v with
 | none=>rfl
 | some r =>
  simp only
  cases T el with
  | none=>rfl
  | some φ =>
   cases tX n lo hi with
   | none=>rfl
   | some p=>rfl
def abD (ty:Nat):Option (List D×List Nat)->Option Row->Option (RK×Option Row)
 | some (ds,fr),some r=>if r.v=0∧r.fz=false∧r.ty=ty∧r.mp=false∧fr.contains 0=false then some (.clean (m9 ds),some r) else none
 | _,_=>none
theorem Ha {ty:Nat} {ds:List D} {r:Row} : abD ty (some (ds,fr)) (some r)=if r.v=0∧r.fz=false∧r.ty=ty∧r.mp=false∧fr.contains 0=false then some (.clean (m9 ds),some r) else none:=ahv
theorem Hb {t:Nat->D} {ty v:Nat} {cells:List D} {fz lst:Bool} : iP .clean T (some (d0,⟨v,ty,cells,fz,lst,false⟩)) rs ⟨t,h,e⟩=abD ty (uT T ⟨t,h,e⟩ rs) (h 0):=by
 simp only[iP,uv,mf,ZY,abD]
 cases uT T ⟨t,h,e⟩ rs with
 | none=>rfl
 | some p =>
  obtain⟨ds,fr⟩:=p
  cases h 0 with
  | none=>rfl
  | some r =>
   simp only
   by_cases h1:r.v=0∧r.fz=false∧r.ty=ty∧r.mp=false
   ·rw[if_pos h1]
    simp only[afq]
    by_cases h2:fr.contains 0=false
    ·rw[if_pos h2,if_pos ⟨h1.1,h1.2.1,h1.2.2.1,h1.2.2.2,h2⟩]
    ·rw[if_neg h2,if_neg (fun hh=>h2 hh.2.2.2.2)]
   ·rw[if_neg h1,if_neg (fun hh=>h1 ⟨hh.1,hh.2.1,hh.2.2.1,hh.2.2.2.1⟩)]
def ZE (ty:Nat):D->Option Row->Option (RK×Option Row)
 | .buf 0 0 s o n,some r=>if r.v=0∧r.fz=false∧r.ty=ty∧r.mp=false then some (.same s o n,some r) else none
 | _,_=>none
theorem Mo {ty s o n:Nat} {r:Row} : ZE ty (.buf 0 0 s o n) (some r)=if r.v=0∧r.fz=false∧r.ty=ty∧r.mp=false then some (.same s o n,some r) else none:=ahv
theorem Hc {t:Nat->D} {ty v i:Nat} {cells:List D} {fz lst:Bool} : iP .same T (some (d0,⟨v,ty,cells,fz,lst,false⟩)) [.tmp i] ⟨t,h,e⟩=ZE ty (t i) (h 0):=by
 simp only[iP,B0,mf]
 generalize t i=q
 cases q with
 | buf a b s o n =>
  cases h 0 with
  | none=>rcases a with _|a<;>rcases b with _|b<;>rfl
  | some r =>
   simp only
   by_cases h1:r.v=0∧r.fz=false∧r.ty=ty∧r.mp=false
   ·rcases a with _|a<;>rcases b with _|b<;>simp[ZE,h1]
   ·rcases a with _|a<;>rcases b with _|b<;>simp[ZE,h1]
 | _=>rfl
end
section
variable {α:Type} (E:jf α) {l m u x:List α} {y y':α} {i a b:Int} {pre post:List D}
theorem aan (h:BT l a b=some x):ae E (l.take a.toNat)++(ae E x++ae E (l.drop b.toNat))=ae E l:=by
 unfold BT at h
 split at h
 ·rename_i hc
  cases h
  rw[<- fJ,<- fJ]
  congr 1
  have e:l.drop b.toNat=(l.drop a.toNat).drop (b.toNat-a.toNat):=by rw[agz];congr 1;omega
  rw[e,agA,agA]
 ·cases h
theorem aao (h:BT l a b=some x):(ae E (l.take a.toNat)).length=a.toNat*E.size:=by
 unfold BT at h
 split at h
 ·rw[bQ,ae7,afS (by omega)]
 ·cases h
theorem abi (h:BT l a b=some x):x.length=b.toNat-a.toNat:=by
 unfold BT at h
 split at h
 ·cases h
  simp
  omega
 ·cases h
theorem aam:ae E (l.take i.toNat)++(ae E u++ae E (l.drop b.toNat))=ae E (l.take i.toNat++(u++l.drop b.toNat)):=by rw[fJ,fJ]
theorem Xp (h:P.idx l i=some y):(pre++(ae E l++post)).drop (pre.length+i.toNat*E.size)=E.cells y++(ae E (l.drop (i.toNat+1))++post):=by
 rw[<- agz,List.drop_left,af2 (by rw[bQ];have:=j9 E h;omega),yy E h,af1]
theorem Xq (h:P.idx l i=some y):pre.length+i.toNat*E.size+E.size<=(pre++(ae E l++post)).length:=by
 have:=j9 E h
 rw[afP,afP,bQ]
 omega
theorem M4 (h:P.idx l i=some y):(0<=i∧i<l.length)∧(pre++(ae E l++post)).drop (pre.length+i.toNat*E.size)=E.cells y++(ae E (l.drop (i.toNat+1))++post)∧pre.length+i.toNat*E.size+E.size<=(pre++(ae E l++post)).length:=⟨pG h,Xp E h,Xq E h⟩
theorem OH (h:P.idx l i=some y):putCells (pre++(ae E l++post)) (pre.length+i.toNat*E.size) (E.cells y')=pre++(ae E (l.set i.toNat y')++post):=by
 have h1:=X5 E (x':=y') h
 have hf:=j9 E h
 have hl:=bQ E l
 unfold putCells at h1 ⊢
 rw[<- h1,E.len]
 have e1:(pre++(ae E l++post)).take (pre.length+i.toNat*E.size)=pre++(ae E l).take (i.toNat*E.size):=by
  rw[af4,af6 (by omega),af3,af5 (by omega)]
 have e2:(pre++(ae E l++post)).drop (pre.length+i.toNat*E.size+E.size)=(ae E l).drop (i.toNat*E.size+E.size)++post:=by
  rw[ae9,agw,agx (by omega),af3,agu,af2 (by omega)]
 rw[e1,e2]
 simp only[af1]
theorem Y1 (h:BT l a b=some x) (hu:u.length=x.length):(l.take a.toNat++(u++l.drop b.toNat)).length=l.length:=by
 have hn:=abi h
 unfold BT at h
 split at h
 ·simp only[afP,ae7,ae8]
  omega
 ·cases h
theorem aab (h:BT l 0 b=some x):pre.length+x.length*E.size<=(pre++(ae E l++post)).length∧((pre++(ae E l++post)).drop pre.length).take (x.length*E.size)=ae E x:=by
 obtain⟨h1,h2,h3,h4,h5⟩:=Ks E h
 have:=afA E.size h3
 refine⟨by rw[afP,afP,bQ];omega,?_⟩
 rw[List.drop_left,af5 (by rw[bQ];exact this),h5]
end
section
variable {h:Nat->Option Row} {Γ:Env} {e:Nat} {dst:Option Nat}
def caP:Option (D×List Nat)->Option (List D×List Nat)->Option (List D×List Nat)
 | some (d,fr),some (ds,fr')=>some (d::ds,fr++fr')
 | _,_=>none
theorem K7 {d:D} {ds:List D} {fr fr':List Nat} : caP (some (d,fr)) (some (ds,fr'))=some (d::ds,fr++fr'):=ahv
theorem Lm:cF h []=some ([],[]):=ahv
theorem GD {d:D} {ds:List D} : cF h (d::ds)=caP (aR h d) (cF h ds):=by
 simp only[cF]
 cases aR h d with
 | none=>rfl
 | some x=>cases cF h ds<;>rfl
theorem Ss {k:IntKind} {n:Int} : aR h (.int k n)=some (.int k n,[]):=ahv
theorem Ll {b:Bool} : aR h (.bool b)=some (.bool b,[]):=ahv
theorem Sw {b:ByteArray} : aR h (.str b)=some (.str b,[]):=ahv
theorem WC {a b:Bool} {n:Nat} {xs:List D} : aR h (.sl a b n xs)=some (.sl false false n xs,[]):=ahv
theorem Sr {xs:List D} : aR h (.agg xs)=some (.agg (xs.map canon),[]):=ahv
theorem Wy {f:Nat} : aR h (.fn f)=some (.fn f,[]):=ahv
def clC (f k:Nat):Option (List D×List Nat)->Option (D×List Nat)
 | some (ys,fr)=>some (.clo f k ys,fr)
 | none=>none
theorem Lx {f k:Nat} {ys:List D} {fr:List Nat} : clC f k (some (ys,fr))=some (.clo f k ys,fr):=ahv
theorem Lr {f k:Nat} {xs:List D} : bE h (.clo f k xs)=clC f k (cF h xs):=by
 simp only[bE]
 cases cF h xs<;>rfl
theorem Li {g k:Nat} {caps args:List D} : hX Γ h e dst (.clo g k caps) args=if caps.all jC then CC false Γ h e dst g (caps.take k++(args++caps.drop k)) else none:=by
 simp only[hX,CC,afo,if_false]
theorem TB {k:IntKind} {n:Int} : jC (.int k n)=true:=ahv
theorem OA {b:Bool} : jC (.bool b)=true:=ahv
theorem TE {b:ByteArray} : jC (.str b)=true:=ahv
theorem XV {a b:Bool} {n:Nat} {xs:List D} : jC (.sl a b n xs)=true:=ahv
theorem TA {xs:List D} : jC (.agg xs)=true:=ahv
theorem XR {f:Nat} : jC (.fn f)=true:=ahv
end
theorem EM:m9 []=.tup []:=ahv
def aFn (f:Nat):Arg Unit:=⟨fun _ =>.fn f,fun _ _ _=>rfl⟩
theorem vm7:type_of% (ai @K7<|ai @Lm<|ai @GD<|ai @Ss<|ai @Ll<|ai @Sw<|ai @WC<|ai @Sr<|ai @Wy<|ai @Lx<|ai @Lr<|ai @Li<|ai @TB<|ai @OA<|ai @TE<|ai @XV<|ai @TA<|ai @XR<|ai @EM<|ai @yb<|ai @ye<|@BW):=⟨@K7,@Lm,@GD,@Ss,@Ll,@Sw,@WC,@Sr,@Wy,@Lx,@Lr,@Li,@TB,@OA,@TE,@XV,@TA,@XR,@EM,@yb,@ye,@BW⟩
theorem vm6:type_of% (ai @OP<|ai @afN<|ai @SW<|ai @Hd<|ai @Ay<|ai @AX<|ai @K9<|ai @CF<|ai @CG<|ai @Ax<|ai @CH<|ai @Ha<|ai @Hb<|ai @Mo<|@Hc):=⟨@OP,@afN,@SW,@Hd,@Ay,@AX,@K9,@CF,@CG,@Ax,@CH,@Ha,@Hb,@Mo,@Hc⟩
section
variable {T:Nat->Option Ty} {h:Nat->Option Row} {τ:Ty} {q:Nat->Bool}
theorem Xz {x v o:Nat} : nI τ h (.ptr x v o)=n8 τ h x v o (live h x v):=ahv
theorem aaJ {xs:List D} : nI τ h (.ip xs)=dg τ h (.ip xs):=ahv
theorem aaH {x v o v' ty:Nat} {c:List D} {fz:Bool} : n8 τ h x v o (some ⟨v',ty,c,fz,true,false⟩)=dg τ h (.ptr x v o):=by
 simp only[n8,af8,Bool.and_false,afo,if_false]
theorem aaI {x v o v' ty:Nat} {c:List D} {lst:Bool} : n8 τ h x v o (some ⟨v',ty,c,false,lst,false⟩)=dg τ h (.ptr x v o):=by
 simp only[n8,agL,afo,if_false]
def ldA:Option D->Option bM->Option bM
 | some d,_=>some ⟨d,[]⟩
 | none,E=>E
theorem Nl {d:D} {E:Option bM} : ldA (some d) E=some ⟨d,[]⟩:=ahv
theorem Nk {E:Option bM} : ldA none E=E:=ahv
theorem aaG {x v o v' ty:Nat} {c:List D} : n8 τ h x v o (some ⟨v',ty,c,true,false,false⟩)=if o+τ.size<=c.length then ldA (PN τ.ds.oQ ((c.drop o).take τ.size)) (dg τ h (.ptr x v o)) else none:=by
 simp only[n8,agM,Bool.and_self,if_true]
 cases PN τ.ds.oQ ((c.drop o).take τ.size)<;>rfl
theorem We {x v s o n:Nat} : PN true [.ali x v s o n]=some (.box1 x v s o n):=ahv
theorem Wd {x v s o n:Nat} : PN false [.ali x v s o n]=some (.buf x v s o n):=ahv
theorem T5 {p:D} {k:IntKind} {n:Int} : cL τ h p (.int k n)=cA τ h p (.int k n):=ahv
theorem Po {p:D} {b:Bool} : cL τ h p (.bool b)=cA τ h p (.bool b):=ahv
theorem T7 {p:D} {b:ByteArray} : cL τ h p (.str b)=cA τ h p (.str b):=ahv
theorem Yq {p:D} {a b:Bool} {n:Nat} {xs:List D} : cL τ h p (.sl a b n xs)=cA τ h p (.sl a b n xs):=ahv
theorem T6 {p:D} {x v o:Nat} : cL τ h p (.ptr x v o)=cA τ h p (.ptr x v o):=ahv
theorem Yn {p:D} {xs:List D} : cL τ h p (.ip xs)=cA τ h p (.ip xs):=ahv
theorem T3 {p:D} {x v s o n:Nat} : cL τ h p (.buf x v s o n)=cA τ h p (.buf x v s o n):=ahv
theorem T1 {p:D} {xs:List D} : cL τ h p (.agg xs)=cA τ h p (.agg xs):=ahv
theorem Ym {p:D} {f:Nat} : cL τ h p (.fn f)=cA τ h p (.fn f):=ahv
theorem T4 {p:D} {f k:Nat} {xs:List D} : cL τ h p (.clo f k xs)=cA τ h p (.clo f k xs):=ahv
theorem T8 {p:D}  : cL τ h p (.und)=cA τ h p (.und):=ahv
def ac5 (τ:Ty) (x o y vy s oy n:Nat):Option Row->Option bM
 | some r=>if τ.size=1∧o=0∧r.cells.length=1∧r.fz=false∧r.lst=false then some ⟨.und,[(x,some ⟨r.v,r.ty,[.ali y vy s oy n],true,false,false⟩)]⟩ else none
 | none=>none
theorem IZ {x o y vy s oy n:Nat} {r:Row} : ac5 τ x o y vy s oy n (some r)=if τ.size=1∧o=0∧r.cells.length=1∧r.fz=false∧r.lst=false then some ⟨.und,[(x,some ⟨r.v,r.ty,[.ali y vy s oy n],true,false,false⟩)]⟩ else none:=ahv
theorem T2 {x v o y vy s oy n:Nat} : cL τ h (.ptr x v o) (.box1 y vy s oy n)=ac5 τ x o y vy s oy n (live h x v):=by
 simp only[cL]
 cases live h x v<;>rfl
def K3 (b:Bool) (T:Nat->Option Ty) (τ:Ty) (h:Nat->Option Row) (ps:List (Nat×D)):Option bM :=
 if b then eG T τ h ps else
  match τ.ds,ps with
  | .struct fs,[(0,.buf x v s o n)]=>if (alive h (.buf x v s o n))∧(fs.all fun f=>(T f.1).isSome)∧fieldAt T fs 0=some (0,1)∧τ.zero.length=1 then some ⟨.box1 x v s o n,[]⟩ else none
  | .struct fs,[(0,.box1 x v s o n)]=>if (alive h (.buf x v s o n))∧(fs.all fun f=>(T f.1).isSome)∧fieldAt T fs 0=some (0,1)∧τ.zero.length=1 then some ⟨.box1 x v s o n,[]⟩ else none
  | _,_=>cE (eG T τ h ps)
theorem Sn {d:Nat} {ps:List (Nat×D)} : pr q T τ h (some d) ps=K3 (q d) T τ h ps:=ahv
theorem Gk:K3 false T τ h []=cE (eG T τ h []):=by
 unfold K3
 rw[if_neg (by simp)]
 cases τ.ds<;>rfl
theorem Wo {cs:List D} {hw:List (Nat×Option Row)} : cE (some ⟨.agg cs,hw⟩)=some ⟨.agg (cs.map canon),hw⟩:=ahv
theorem Gl {ps:List (Nat×D)} : K3 true T τ h ps=eG T τ h ps:=ahv
def Wl (T:Nat->Option Ty) (h:Nat->Option Row) (nz x v s o n:Nat):Ds->Option bM
 | .struct fs=>if (alive h (.buf x v s o n))∧(fs.all fun f=>(T f.1).isSome)∧fieldAt T fs 0=some (0,1)∧nz=1 then some ⟨.box1 x v s o n,[]⟩ else none
 | _=>none
theorem Wm {nz x v s o n:Nat} {fs:List (Nat×Nat)} : Wl T h nz x v s o n (.struct fs)=if (alive h (.buf x v s o n))∧(fs.all fun f=>(T f.1).isSome)∧fieldAt T fs 0=some (0,1)∧nz=1 then some ⟨.box1 x v s o n,[]⟩ else none:=ahv
theorem K4 {x v s o n:Nat} : K3 false T τ h [(0,.box1 x v s o n)]=Wl T h τ.zero.length x v s o n τ.ds:=by
 unfold K3 Wl eG
 rw[if_neg (by simp)]
 cases τ.ds<;>rfl
theorem Cy {x v s o n:Nat} : K3 false T τ h [(0,.buf x v s o n)]=Wl T h τ.zero.length x v s o n τ.ds:=by
 unfold K3 Wl eG
 rw[if_neg (by simp)]
 cases τ.ds<;>rfl
def clX:Option (D×List Nat)->Option (D×List Nat)
 | some (d,fr)=>some (.agg [d],fr)
 | none=>none
theorem LI {d:D} {fr:List Nat} : clX (some (d,fr))=some (.agg [d],fr):=ahv
theorem Lp {x v s o n:Nat} : bE h (.box1 x v s o n)=clX (Zw x s o n (live h x v)):=by
 simp only[bE,aR,cX]
 cases live h x v with
 | none=>rfl
 | some r=>by_cases hc:o+n*s<=r.cells.length<;>simp[Zw,clX,hc,canon]
theorem XP {x v s o n:Nat} : nm (.box1 x v s o n)=[x]:=ahv
theorem Gb {x v s o n:Nat} : alive h (.buf x v s o n)=(nL h x v).isSome:=ahv
theorem Hi {fs:List (Nat×Nat)} {ft off:Nat} : fieldAt T ((ft,off)::fs) 0=(T ft).map fun φ=>(off,φ.size):=by
 simp only[fieldAt,List.getElem?_cons_zero]
 cases T ft<;>rfl
end
theorem vm8:type_of% (ai @Xz<|ai @aaJ<|ai @aaH<|ai @aaI<|ai @Nl<|ai @Nk<|ai @aaG<|ai @We<|ai @Wd<|ai @T5<|ai @Po<|ai @T7<|ai @Yq<|ai @T6<|ai @Yn<|ai @T3<|ai @T1<|ai @Ym<|ai @T4<|ai @T8<|ai @T2<|ai @IZ<|ai @Sn<|ai @Gl<|ai @Wm<|ai @Cy<|ai @Gk<|ai @K4<|ai @Wo<|ai @LI<|ai @Lp<|ai @XP<|ai @Gb<|@Hi):=⟨@Xz,@aaJ,@aaH,@aaI,@Nl,@Nk,@aaG,@We,@Wd,@T5,@Po,@T7,@Yq,@T6,@Yn,@T3,@T1,@Ym,@T4,@T8,@T2,@IZ,@Sn,@Gl,@Wm,@Cy,@Gk,@K4,@Wo,@LI,@Lp,@XP,@Gb,@Hi⟩
theorem adx:type_of% (ai @VQ<|ai @aaq<|ai @ID<|ai @TQ<|ai @Ye<|ai @Yd<|ai @N8<|ai @N7<|ai @aa8<|ai @Hs<|ai @Hr<|ai @Mw<|ai @HW<|ai @Ef<|ai @Oa<|ai @Tx<|ai @TH<|ai @TO<|ai @Nw<|ai @XE<|ai @Ti<|ai @HA<|ai @Tg<|ai @Nm<|ai @HB<|ai @Nn<|ai @Th<|ai @TW<|ai @IP<|ai @IQ<|ai @IF<|ai @IT<|ai @IN<|ai @Pg<|ai @IS<|ai @Ph<|ai @TV<|ai @Pf<|ai @IX<|@j3):=⟨@VQ,@aaq,@ID,@TQ,@Ye,@Yd,@N8,@N7,@aa8,@Hs,@Hr,@Mw,@HW,@Ef,@Oa,@Tx,@TH,@TO,@Nw,@XE,@Ti,@HA,@Tg,@Nm,@HB,@Nn,@Th,@TW,@IP,@IQ,@IF,@IT,@IN,@Pg,@IS,@Ph,@TV,@Pf,@IX,@j3⟩
theorem ady:type_of% (ai @SZ<|ai @Nh<|ai @MZ<|ai @Na<|ai @MT<|ai @HS<|ai @Om<|ai @Ei<|ai @Oo<|ai @On<|ai @H2<|ai @Ol<|ai @Ok<|ai @IJ<|ai @IV<|ai @II<|ai @IU<|ai @TS<|ai @TX<|ai @IK<|ai @IW<|ai @O9<|ai @Pj<|ai @HK<|ai @HL<|ai @Pd<|ai @IL<|ai @Pe<|ai @IM<|ai @TU<|ai @Pc<|ai @Gf<|ai @Ge<|@nL.eq_1):=⟨@SZ,@Nh,@MZ,@Na,@MT,@HS,@Om,@Ei,@Oo,@On,@H2,@Ol,@Ok,@IJ,@IV,@II,@IU,@TS,@TX,@IK,@IW,@O9,@Pj,@HK,@HL,@Pd,@IL,@Pe,@IM,@TU,@Pc,@Gf,@Ge,@nL.eq_1⟩
theorem adz:type_of% (ai @Xc<|ai @Te<|ai @S8<|ai @Tc<|ai @S5<|ai @Tz<|ai @HR<|ai @HU<|ai @NA<|ai @ND<|ai @D1<|ai @NF<|ai @NC<|ai @HG<|ai @Nz<|ai @Ny<|ai @NB<|ai @Oi<|ai @Of<|ai @Eh<|ai @Oj<|ai @Oh<|ai @H0<|ai @Oe<|ai @Od<|ai @Og<|ai @Gx<|ai @AG<|ai @AE<|ai @AF<|ai @LN<|ai @LO<|ai @W5<|ai @SM<|ai @W4<|ai @SL<|ai @L9<|ai @Ma<|ai @Mb<|ai @Ld<|ai @Gw<|ai @O7<|ai @IG<|ai @O8<|ai @IH<|ai @yn<|ai @cu<|ai @ym<|ai @ct<|ai @SU<|ai @Mn<|ai @SQ<|ai @G9<|@Ml):=⟨@Xc,@Te,@S8,@Tc,@S5,@Tz,@HR,@HU,@NA,@ND,@D1,@NF,@NC,@HG,@Nz,@Ny,@NB,@Oi,@Of,@Eh,@Oj,@Oh,@H0,@Oe,@Od,@Og,@Gx,@AG,@AE,@AF,@LN,@LO,@W5,@SM,@W4,@SL,@L9,@Ma,@Mb,@Ld,@Gw,@O7,@IG,@O8,@IH,@yn,@cu,@ym,@ct,@SU,@Mn,@SQ,@G9,@Ml⟩
theorem v:type_of% (ai @vmc<|ai @vmk<|ai @vm1<|ai @vm2<|ai @vm3<|ai @vm4<|ai @vm5<|ai @vm6<|ai @vm7<|ai @vm8<|ai @adv<|ai @adx<|ai @ady<|ai @adz<|ai @vmu<|ai @Option.toList_some.{0}<|@Option.toList_none.{0}):=⟨@vmc,@vmk,@vm1,@vm2,@vm3,@vm4,@vm5,@vm6,@vm7,@vm8,@adv,@adx,@ady,@adz,@vmu,@Option.toList_some.{0},@Option.toList_none.{0}⟩
def D8 {α:Type} : List (Int×α)->List Int
 | []=>[]
 | (k,_)::m=>k::D8 m
def Vj {α:Type} (A:Arg α):List (Int×α)->List D
 | []=>[]
 | (_,v)::m=>A.d v::Vj A m
section
variable {α:Type} {A:Arg α}
theorem NX:D8 ([]:List (Int×α))=[]:=ahv
theorem N1:Vj A []=[]:=ahv
theorem NW (n:Int):∀m:List (Int×α),(D8 m).contains n=ZH m n
 | []=>rfl
 | (k,v)::m=>by
  have:=NW n m
  simp only[D8,afN,ZH,this]
  congr 1
  exact Bool.beq_comm
theorem map_inj:∀ {m m':List (Int×α)},D8 m=D8 m'->Vj A m=Vj A m'->m=m'
 | [],[],_,_=>rfl
 | [],(k,v)::m',h,_=>by simp[D8]at h
 | (k,v)::m,[],h,_=>by simp[D8]at h
 | (k,v)::m,(k',v')::m',h,g=>by
  simp only[D8,afc]at h
  simp only[Vj,afc]at g
  rw[h.1,A.inj _ _ g.1,map_inj h.2 g.2]
end
def eMp {α:Type} (A:Arg α):jf (List (Int×α)):=⟨fun m=>[.mpc (D8 m) (Vj A m)],1,fun _=>rfl,by decide,fun x y h=>by
 simp only[afc,D.mpc.injEq,and_true]at h
 exact map_inj h.1 h.2⟩
theorem Mc {α:Type} (A:Arg α):(eMp A).size=1:=ahv
def aIp {α:Type} (e:jf α):Arg α:=⟨fun x =>.ip (e.cells x),fun x y h=>e.inj _ _ (by simpa using h)⟩
theorem aay {α:Type} (e:jf α) (x:α):(aIp e).d x=.ip (e.cells x):=ahv
section
variable {T:Nat->Option Ty} {h:Nat->Option Row} {Γ:Env} {e:Nat} {dst:Option Nat}
def lvM (v:Nat):Option Row->Option (List Int×List D)
 | some r=>if r.v=v∧r.mp=true then (match r.cells with | [.mpc ks vs]=>some (ks,vs)|_=>none) else none
 | none=>none
theorem Nv {x v:Nat} : iH h x v=lvM v (h x):=by
 unfold iH lvM
 cases h x<;>rfl
theorem NH {v ty:Nat} {ks:List Int} {vs:List D} {fz lst:Bool} : lvM v (some ⟨v,ty,[.mpc ks vs],fz,lst,true⟩)=some (ks,vs):=by simp[lvM]
def lkK (ks:List Int) (n:Int):Bool:=ks.contains n
theorem Tl {α:Type} {m:List (Int×α)} {n:Int} : lkK (D8 m) n=ZH m n:=NW n m
def lkE (ok:Bool) (z:D) (n:Int):Option (List Int×List D)->Option bM
 | some (ks,vs)=>some ⟨if ok then .tup [tf z ks vs n,.bool (lkK ks n)] else tf z ks vs n,[]⟩
 | none=>none
theorem aaY {z:D} {n:Int} {ks:List Int} {vs:List D} : lkE true z n (some (ks,vs))=some ⟨.tup [tf z ks vs n,.bool (lkK ks n)],[]⟩:=ahv
theorem aaX {z:D} {n:Int} {ks:List Int} {vs:List D} : lkE false z n (some (ks,vs))=some ⟨tf z ks vs n,[]⟩:=ahv
theorem NZ {x v:Nat} : mapOf h (.mp x v)=iH h x v:=ahv
theorem HI {ks:List Int} {vs:List D} : mapOf h (.mpc ks vs)=some (ks,vs):=ahv
def muR (h:Nat->Option Row) (y:Nat) (n:Int) (d:D) (fr:List Nat) (ks:List Int) (vs:List D):Option Row->Option bM
 | some r=>if r.fz=false∧fr.contains y=false then some ⟨.und,iX h fr++[(y,some ⟨r.v,r.ty,[.mpc (BQ ks n) (Kk ks vs n d)],false,true,true⟩)]⟩ else none
 | none=>none
theorem N6 {y v ty:Nat} {n:Int} {d:D} {fr:List Nat} {ks:List Int} {vs:List D} {cells:List D} {lst mp:Bool} : muR h y n d fr ks vs (some ⟨v,ty,cells,false,lst,mp⟩)=if fr.contains y=false then some ⟨.und,iX h fr++[(y,some ⟨v,ty,[.mpc (BQ ks n) (Kk ks vs n d)],false,true,true⟩)]⟩ else none:=by
 simp only[muR,true_and]
def muM (h:Nat->Option Row) (y:Nat) (n:Int) (d:D) (fr:List Nat):Option (List Int×List D)->Option bM
 | some (ks,vs)=>muR h y n d fr ks vs (h y)
 | none=>none
theorem N5 {y:Nat} {n:Int} {d:D} {fr:List Nat} {ks:List Int} {vs:List D} : muM h y n d fr (some (ks,vs))=muR h y n d fr ks vs (h y):=ahv
def muE (h:Nat->Option Row) (y v:Nat) (n:Int):Option (D×List Nat)->Option bM
 | some (d,fr)=>muM h y n d fr (iH h y v)
 | none=>none
theorem N4 {y v:Nat} {n:Int} {d:D} {fr:List Nat} : muE h y v n (some (d,fr))=muM h y n d fr (iH h y v):=ahv
theorem Pu {k:IntKind} {n:Int} : xG h (.int k n)=some (.int k n,[]):=ahv
theorem I6 {b:Bool} : xG h (.bool b)=some (.bool b,[]):=ahv
theorem Pt {xs:List D} : xG h (.agg xs)=some (.agg (xs.map canon),[]):=ahv
def ldP (τ:Ty) (h:Nat->Option Row) (x v y:Nat):Option Row->Option bM
 | some r=>match r.cells with
  | [.alm y' v']=>if r.fz=true∧r.lst=false∧τ.size=1∧τ.ds.oQ=false then some ⟨.mp y' v',[]⟩ else none
  | _=>none
 | none=>py τ h x v y (lz h x v)
theorem aaK {τ:Ty} {x v y:Nat} : nI τ h (.pm x v y)=ldP τ h x v y (live h x v):=by
 simp only[nI]
 cases live h x v with
 | none=>rfl
 | some r =>
  obtain⟨v',ty,cells,fz,lst,mp⟩:=r
  rcases cells with _|⟨c,_|⟨c',cs⟩⟩<;>rfl
theorem No {τ:Ty} {x v y:Nat} : ldP τ h x v y none=py τ h x v y (lz h x v):=ahv
def ldQ (τ:Ty) (h:Nat->Option Row) (x y s n:Nat):Option Row->Option bM
 | some r=>if y=1000000+x∧r.mp=false∧r.lst=true∧r.cells.length=n*s∧τ.size=1 then some ⟨if τ.ds.oQ then .agg [.sl false false n r.cells] else .sl false false n r.cells,iX h [y]⟩ else none
 | none=>none
theorem Xy {τ:Ty} {r:Row} {x v y s n:Nat} : py τ h x v y (some (r,y,s,n))=ldQ τ h x y s n (h y):=by
 simp only[py,ldQ,PK]
 cases h y with
 | none=>rfl
 | some q=>simp
theorem Nq {ty b:Nat} {ds:Ds} {z:List Value} {q:Bool} {x y s n e':Nat} {cells:List D} {fz:Bool} : ldQ ⟨ds,1,b,z,q⟩ h x y s n (some ⟨e',ty,cells,fz,true,false⟩)=if y=1000000+x∧cells.length=n*s then some ⟨if ds.oQ then .agg [.sl false false n cells] else .sl false false n cells,iX h [y]⟩ else none:=by
 simp[ldQ]
def abF (T:Nat->Option Ty) (x v k:Nat):Option (Row×Nat×Nat×Nat)->Option (Nat×Nat)->Option bM
 | some _,some (ft,0)=>match T ft with|some φ=>if φ.size=0 then none else some ⟨.pm x v k,[]⟩|none=>none
 | _,_=>none
theorem Hq {T:Nat->Option Ty} {x v k ft:Nat} {r:Row×Nat×Nat×Nat} : abF T x v k (some r) (some (ft,0))=match T ft with|some φ=>if φ.size=0 then none else some ⟨.pm x v k,[]⟩|none=>none:=ahv
theorem Xe {T:Nat->Option Ty} {b c:Nat} {z:List Value} {q:Bool} {fs:List (Nat×Nat)} {x v k i:Nat} : dz T ⟨.struct fs,b,c,z,q⟩ h i (.pm x v k)=abF T x v k (lz h x v) fs[i]?:=by
 simp only[dz,abF]
 cases lz h x v with
 | none=>rfl
 | some r=>simp only;generalize fs[i]? = z;rcases z with _|⟨ft,_|off⟩<;>first|rfl|(simp;done)|(simp only;cases T ft<;>rfl)
def T0 (x y s oy n k : Nat) : Option Row -> Option Row -> Option bM
  | some r, some q => if oy = 0 ∧ r.cells.length = 1 ∧ r.fz = false ∧ r.lst = false ∧ q.fz = false ∧ q.lst = true ∧ q.cells.length = n * s ∧ x ≠ y ∧ k = 1000000 + x ∧ x < 1000000 then
          some ⟨.und, [(y, none), (k, some ⟨0, q.ty, q.cells, false, true, false⟩), (x, some ⟨r.v, r.ty, [.ph k s n], false, false, true⟩)]⟩ else none
  | _, _ => none
theorem Yp {ds:Ds} {b:Nat} {z:List Value} {q:Bool} {x v y vy s oy n k:Nat} : cL ⟨ds,1,b,z,q⟩ h (.pm x v k) (.box1 y vy s oy n)=T0 x y s oy n k (live h x v) (live h y vy):=by
 simp only[cL,T0,PK,true_and]
 cases live h x v with
 | none=>rfl
 | some r=>cases live h y vy<;>rfl
theorem E8 {x y s oy n k v ty e' ty':Nat} {c:D} {cells:List D} : T0 x y s oy n k (some ⟨v,ty,[c],false,false,false⟩) (some ⟨e',ty',cells,false,true,false⟩)=if oy=0∧cells.length=n*s∧¬x=y∧k=1000000+x∧x<1000000 then
  some ⟨.und,[(y,none),(k,some ⟨0,ty',cells,false,true,false⟩),(x,some ⟨v,ty,[.ph k s n],false,false,true⟩)]⟩ else none:=by
 simp[T0]
theorem Np {v ty y' v':Nat} {b k el:Nat} {z:List Value} {q mp:Bool} {x0 v0 y0:Nat} : ldP ⟨.map k el,1,b,z,q⟩ h x0 v0 y0 (some ⟨v,ty,[.alm y' v'],true,false,mp⟩)=some ⟨.mp y' v',[]⟩:=by
 simp[ldP,Ds.oQ]
def aai (τ:Ty) (x y y' v':Nat) (m:Bool):Option Row->Option bM
 | some r=>if τ.size=1∧y'=y∧r.cells.length=1∧r.fz=false∧r.lst=false∧m then some ⟨.und,[(x,some ⟨r.v,r.ty,[.alm y' v'],true,false,false⟩)]⟩ else none
 | none=>none
theorem Yo {τ:Ty} {x v y y' v':Nat} : cL τ h (.pm x v y) (.mp y' v')=aai τ x y y' v' (iH h y v').isSome (live h x v):=by
 simp only[cL,aai]
 cases live h x v<;>rfl
theorem IY {x y v' v ty:Nat} {c:D} {b:Nat} {ds:Ds} {z:List Value} {q mp:Bool} : aai ⟨ds,1,b,z,q⟩ x y y v' true (some ⟨v,ty,[c],false,false,mp⟩)=some ⟨.und,[(x,some ⟨v,ty,[.alm y v'],true,false,false⟩)]⟩:=by
 simp[aai]
theorem aa1 {x v:Nat} : nm (.mp x v)=[x]:=ahv
theorem XQ {ks:List Int} {vs:List D} : nm (.mpc ks vs)=[]:=ahv
theorem aa2 {x v y:Nat} : nm (.pm x v y)=[x,y]:=ahv
def clM (x:Nat):Option (List Int×List D)->Option (D×List Nat)
 | some (ks,vs)=>some (.mpc ks vs,[x])
 | none=>none
theorem LA {x:Nat} {ks:List Int} {vs:List D} : clM x (some (ks,vs))=some (.mpc ks vs,[x]):=ahv
theorem Sz {x v:Nat} : bE h (.mp x v)=clM x (iH h x v):=by
 simp only[bE,aR,clM]
 cases iH h x v<;>rfl
theorem Lt {ks:List Int} {vs:List D} : bE h (.mpc ks vs)=some (.mpc ks vs,[]):=ahv
theorem WA {x v:Nat} : aR h (.mp x v)=clM x (iH h x v):=by
 simp only[aR,clM]
 cases iH h x v<;>rfl
theorem Su {ks:List Int} {vs:List D} : aR h (.mpc ks vs)=some (.mpc ks vs,[]):=ahv
theorem Wz {xs:List D} : aR h (.ip xs)=some (.ip xs,[]):=ahv
theorem Sv {x v o:Nat} : aR h (.ptr x v o)=clP x o (live h x v):=by
 simp only[aR]
 cases live h x v with
 | none=>rfl
 | some r=>simp only[clP]
def clN (x y:Nat):Option (List Int×List D)->Option (D×List Nat)
 | some (ks,vs)=>some (.ip [.mpc ks vs],[x,y])
 | none=>none
theorem LC {x y:Nat} {ks:List Int} {vs:List D} : clN x y (some (ks,vs))=some (.ip [.mpc ks vs],[x,y]):=ahv
def clQ (h:Nat->Option Row) (x y:Nat):Option Row->Option (D×List Nat)
 | some r=>match r.cells with
  | [.alm y' v']=>if r.fz=true∧r.lst=false∧y'=y then clN x y (iH h y v') else none
  | _=>none
 | none=>none
theorem LH {x y v' v ty:Nat} {mp:Bool} : clQ h x y (some ⟨v,ty,[.alm y v'],true,false,mp⟩)=clN x y (iH h y v'):=by
 simp[clQ]
theorem WB {x v y:Nat} : aR h (.pm x v y)=clQ h x y (live h x v):=by
 simp only[aR]
 cases live h x v with
 | none=>rfl
 | some r =>
  obtain⟨v',ty,cells,fz,lst,mp⟩:=r
  rcases cells with _|⟨c,_|⟨c',cs⟩⟩<;>rfl
theorem TD {x v o:Nat} : jC (.ptr x v o)=true:=ahv
theorem XU {x v y:Nat} : jC (.pm x v y)=true:=ahv
theorem XS {xs:List D} : jC (.ip xs)=true:=ahv
theorem XT {x v:Nat} : jC (.mp x v)=true:=ahv
theorem TC {ks:List Int} {vs:List D} : jC (.mpc ks vs)=true:=ahv
theorem Xh {v ty:Nat} {cells:List D} {fz mp:Bool} : qZ ⟨v,ty,cells,fz,true,mp⟩=⟨v,ty,cells,true,true,mp⟩:=by cases fz<;>rfl
theorem S7 {d:Nat} : aY.hint d=none:=ahv
theorem MW {f:Nat} {l:Bool} {G:Option (D×Row)->List D->Option (RK×Option Row)} {d:Nat} : (Am.ext Γ f l G).hint d=Γ.hint d:=ahv
theorem Hw {d i:Nat} : (Am.keep d Γ).hint i=Γ.hint i:=ahv
theorem Hv {d y i:Nat} : (Am.wS d y Γ).hint i=if i=d then some y else Γ.hint i:=ahv
theorem M0 {d y i:Nat} : (Am.wS d y Γ).own i=Γ.own i:=ahv
theorem DR {d y i:Nat} : (Am.wS d y Γ).lends i=Γ.lends i:=ahv
theorem M3 {d y i:Nat} {lent:Option (D×Row)} {aeJ:List D} : (Am.wS d y Γ).sem i lent aeJ=Γ.sem i lent aeJ:=ahv
theorem Hp {ks:List Int} {vs:List D} : gu (.mpc ks vs)=false:=ahv
theorem GB {ks:List Int} {vs:List D} : canon (.mpc ks vs)=.mpc ks vs:=ahv
theorem CO {ks:List Int} {vs:List D} : fD (.mpc ks vs)=.mpc ks vs:=ahv
end
structure tx {α:Type} (E:jf α) (C:List D) (o:Nat) (l:List α):Prop where
 fit:o+l.length*E.size<=C.length
 eq:(C.drop o).take (l.length*E.size)=ae E l
theorem tx.self {α:Type} (E:jf α) (l:List α):tx E (ae E l) 0 l:=⟨by rw[bQ];omega,by rw[af7,<- bQ,agO]⟩
theorem tx.split {α:Type} {E:jf α} {C:List D} {o:Nat} {l:List α} (F:tx E C o l):C.drop o=ae E l++C.drop (o+l.length*E.size):=by
 rw[<- agz]
 conv=>lhs;rw[<- agA (l.length*E.size) (C.drop o)]
 rw[F.eq]
theorem tx.idx {α:Type} {E:jf α} {C:List D} {o:Nat} {l:List α} {i:Int} {x:α} (F:tx E C o l) (h:P.idx l i=some x):o+i.toNat*E.size+E.size<=C.length∧∃rest,C.drop (o+i.toNat*E.size)=E.cells x++rest:=by
 have h1:=j9 E h
 have h2:=F.fit
 refine⟨by omega,ae E (l.drop (i.toNat+1))++C.drop (o+l.length*E.size),?_⟩
 rw[<- agz,F.split,af2 (by rw[bQ];omega),yy E h,af1]
theorem tx.tail {α:Type} {E:jf α} {C:List D} {o:Nat} {l m:List α} {a:Int} (F:tx E C o l) (h:BT l a (l.length:Int)=some m):tx E C (o+a.toNat*E.size) m:=by
 obtain⟨h1,h2,h3,h4,h5⟩:=Yf E h
 have h6:=F.fit
 have h7:a.toNat*E.size+m.length*E.size=l.length*E.size:=by rw[<- afT];congr 1;omega
 refine⟨by omega,?_⟩
 rw[<- agz,F.split,af2 (by rw[bQ];omega),af5 (by rw[ae8,bQ];omega),h5]
theorem adA:type_of% (ai @NX<|ai @N1<|ai @Nv<|ai @NH<|ai @Tl<|ai @aaY<|ai @aaX<|ai @NZ<|ai @HI<|ai @N6<|ai @N5<|ai @N4<|ai @Pu<|ai @I6<|ai @Pt<|ai @aaK<|ai @Np<|ai @Yo<|ai @IY<|ai @aa1<|ai @XQ<|@aa2):=⟨@NX,@N1,@Nv,@NH,@Tl,@aaY,@aaX,@NZ,@HI,@N6,@N5,@N4,@Pu,@I6,@Pt,@aaK,@Np,@Yo,@IY,@aa1,@XQ,@aa2⟩
theorem adB:type_of% (ai @LA<|ai @Sz<|ai @Lt<|ai @WA<|ai @Su<|ai @Wz<|ai @Sv<|ai @LC<|ai @LH<|ai @WB<|ai @TD<|ai @XU<|ai @XS<|ai @XT<|ai @TC<|ai @Xi<|ai @Xg<|ai @Xh<|ai @S7<|ai @MW<|ai @Hw<|ai @Hv<|ai @M0<|ai @DR<|ai @M3<|ai @Ia<|ai @H9<|ai @Hp<|ai @GB<|ai @CO<|ai @Mc<|@aay):=⟨@LA,@Sz,@Lt,@WA,@Su,@Wz,@Sv,@LC,@LH,@WB,@TD,@XU,@XS,@XT,@TC,@Xi,@Xg,@Xh,@S7,@MW,@Hw,@Hv,@M0,@DR,@M3,@Ia,@H9,@Hp,@GB,@CO,@Mc,@aay⟩
theorem adC:type_of% (ai @AN<|ai @AR<|ai @C3<|ai @C6<|ai @wK<|ai @wO<|ai @C2<|ai @C5<|ai @w6<|ai @zf<|ai @tw<|ai @ze<|ai @Wi<|ai @Sf<|@Wj):=⟨@AN,@AR,@C3,@C6,@wK,@wO,@C2,@C5,@w6,@zf,@tw,@ze,@Wi,@Sf,@Wj⟩
theorem adw:type_of% (ai @No<|ai @Xy<|ai @Nq<|ai @Yp<|ai @E8<|ai @Hq<|@Xe):=⟨@No,@Xy,@Nq,@Yp,@E8,@Hq,@Xe⟩
theorem vi:type_of% (ai @adA<|ai @adB<|ai @adw<|@adC):=⟨@adA,@adB,@adw,@adC⟩
end Go.Proofs.Ytchndpjlijbplaa.Am
namespace Go.Proofs.Ytchndpjlijbplaa.P
open Go.RowKit
theorem wrap64 {x:Int} (h1 : -9223372036854775808<=x) (h2:x<9223372036854775808):IntKind.i64.wrap x=x:=by
 have key:IntKind.i64.wrap x=if x % 18446744073709551616>=9223372036854775808 then x % 18446744073709551616-18446744073709551616 else x % 18446744073709551616:=by
  unfold IntKind.wrap
  by_cases h:x % 18446744073709551616>=9223372036854775808
  ·rw[if_pos h];exact if_pos (by simpa [IntKind.bits,IntKind.signed] using h)
  ·rw[if_neg h];exact if_neg (by simpa [IntKind.bits,IntKind.signed] using h)
 rw[key]
 split<;>omega
theorem M5 {α:Type} {l:List α} {i:Int} {x:α} (h0:0<=i) (h:l[i.toNat]? = some x):P.idx l i=some x:=by
 have:=(afh.1 h).1
 unfold P.idx
 rw[if_pos ⟨h0,by omega⟩,h]
theorem cy {α:Type} {l:List α} {i:Nat} (h:i<l.length):P.idx l (i:Int)=some (l[i]):=M5 (by omega) (by simp[h])
theorem aac {α:Type} {l:List α} {i:Nat} (h:i<=l.length):BT l 0 (i:Int)=some (l.take i):=by
 unfold BT
 rw[if_pos ⟨by omega,by omega,by omega⟩]
 simp
end Go.Proofs.Ytchndpjlijbplaa.P
namespace Go.Proofs.Ytchndpjlijbplaa.Am
open Go.RowKit Go.Deep Go.ChangeShapes Go.WideShapes
def Cq (T:Nat->Option Ty):Nat->Nat->List D->Prop
 | 0,_,_=>False
 | n+1,t,xs =>
  match T t with
  | none=>False
  | some τ=>xs.length=τ.size ∧
   match τ.ds with
   | .int k=>∃i,xs=[.int k i]∧(Lit.int k i).wf=true
   | .bool=>∃b,xs=[.bool b]
   | .str=>∃s:ByteArray,xs=[.str s]∧s.size<=140737488351232
   | .slice e=>∃len ys φ,xs=[.sl false false len ys]∧len*φ.bytes<=140737488351232∧T e=some φ∧ys.length=len*φ.size∧∀i,i<len->Cq T n e ((ys.drop (i*φ.size)).take φ.size)
   | .struct fs=>∀f∈fs,∃φ,T f.1=some φ∧Cq T n f.1 ((xs.drop f.2).take φ.size)
   | .arr m e=>∃φ,T e=some φ∧∀i,i<m->Cq T n e ((xs.drop (i*φ.size)).take φ.size)
   | .map _ _=>False
   | .other=>False
def A4 (T:Nat->Option Ty):Nat->List (Nat×Nat)->Nat->Bool
 | o,[],z=>o==z
 | o,(ft,off)::fs,z=>off==o&&match T ft with|some φ=>A4 T (o+φ.size) fs z|none=>false
def Vn (T:Nat->Option Ty):Nat->Nat->Bool
 | 0,_=>false
 | n+1,t =>
  match T t with
  | none=>false
  | some τ =>
   match τ.ds with
   | .int _ | .bool | .str=>τ.size==1
   | .slice e=>τ.size==1&&Vn T n e&&(match T e with|some φ=>decide (0<φ.size)|none=>false)
   | .struct fs=>A4 T 0 fs τ.size&&fs.all fun f=>Vn T n f.1
   | .arr m e=>Vn T n e&&(match T e with|some φ=>τ.size==m*φ.size|none=>false)
   | .map _ _=>false
   | .other=>false
def mJ (w:World) (M:Nat->Prop) (xs:List D) (cs:List Value):Prop:=xs.length=cs.length∧∀(j:Nat) (x:D),xs[j]? = some x->aU x=true∧∃v,cs[j]? = some v∧RP w M x v
theorem mJ.append {w:World} {M:Nat->Prop} {xs ys:List D} {cs ds:List Value} (h:mJ w M xs cs) (k:mJ w M ys ds):mJ w M (xs++ys) (cs++ds):=by
 refine⟨by simp[h.1,k.1],fun j x hj =>?_⟩
 rw[afv]at hj ⊢
 rw[<- h.1]
 split at hj
 ·rename_i hlt;rw[if_pos hlt];exact h.2 j x hj
 ·rename_i hlt;rw[if_neg hlt];exact k.2 _ x hj
theorem DC {α:Type} (s:Nat):∀(ls:List (List α)),(∀l∈ls,l.length=s)->∀(i:Nat) (l:List α),ls[i]? = some l->(ls.flatten.drop (i*s)).take s=l
 | [],_,i,l,h=>by simp at h
 | a::ls,hl,0,l,h=>by
  simp only[List.getElem?_cons_zero,aeX]at h
  subst h
  have:a.length=s:=hl a (by simp)
  simp[this]
 | a::ls,hl,i+1,l,h=>by
  have ha:a.length=s:=hl a (by simp)
  rw[List.flatten_cons,agw,agx (by rw[ha,afJ];omega),agu,ha,afJ,agy]
  exact DC s ls (fun x hx=>hl x (age _ hx)) i l h
theorem Mu {α:Type} (s:Nat):∀(ls:List (List α)),(∀l∈ls,l.length=s)->ls.flatten.length=ls.length*s
 | [],_=>by simp
 | a::ls,hl=>by
  rw[List.flatten_cons,afP,Mu s ls (fun x hx=>hl x (age _ hx)),hl a (by simp),afe,afJ]
  omega
section
variable {H:Type} {enc:TypeId×Value->H} {P:Program} {w:World} {base:Nat} {spare:Nat->Bool} {held:Bool} {T:Nat->Option Ty}
theorem gA.bytesOf {P:Program} {t:Nat} {τ:Ty} (h:gA P t τ):P.bytesOf t=τ.bytes:=by
 have:=h.info
 unfold Program.bytesOf
 cases hi:P.info? t with
 | none=>rw[hi]at this;simp at this
 | some i=>rw[hi]at this;simp only[Option.map_some,aeX,Prod.mk.injEq]at this;simp[this.2.1]
def Reach (P:Program) (t:Nat) (d:DataW H):Prop:=∀k∈d.weights P t,k<=140737488351232
theorem Ah {e:TypeId} : ∀(l:List (DataW H)) (j:Nat) (d:DataW H),l[j]? = some d->∀k∈d.weights P e,k∈DataW.weightsAll P e l
 | x::l,0,d,h,k,hk=>by
  simp only[List.getElem?_cons_zero,aeX]at h
  subst h
  simp only[DataW.weightsAll,afV]
  exact .inl hk
 | x::l,j+1,d,h,k,hk=>by
  simp only[DataW.weightsAll,afV]
  exact .inr (Ah l j d (by simpa using h) k hk)
 | [],j,d,h,k,hk=>by simp at h
theorem gA.cells {P:Program} {t:Nat} {τ:Ty} (h:gA P t τ):P.cellsOf t=τ.size:=by
 have:=h.info
 unfold Program.cellsOf
 cases hi:P.info? t with
 | none=>rw[hi]at this;simp at this
 | some i=>rw[hi]at this;simp only[Option.map_some,aeX,Prod.mk.injEq]at this;simp[this.1]
theorem Tf {T:Nat->Option Ty} {w:World} {M:Nat->Prop} {cs:List Value} : ∀(fs:List (Nat×Nat)) (o z:Nat) (f:Nat×Nat->List D),A4 T o fs z=true->cs.length=z ->
  (∀p∈fs,∃φ,T p.1=some φ∧mJ w M (f p) ((cs.drop p.2).take φ.size))->o<=z->∃xs,mJ w M xs (cs.drop o)∧∀p∈fs,∃φ,T p.1=some φ∧o<=p.2∧(xs.drop (p.2-o)).take φ.size=f p
 | [],o,z,f,hl,hc,_,_=>by
  simp only[A4,beq_iff_eq]at hl
  refine⟨[],⟨by rw[ae8,hc,hl];simp,fun j x hj=>by simp at hj⟩,fun p hp=>by simp at hp⟩
 | (ft,off)::fs,o,z,f,hl,hc,hp,hoz=>by
  simp only[A4,afp,beq_iff_eq]at hl
  obtain⟨rfl,hl⟩:=hl
  obtain⟨φ,hφ,hR⟩:=hp (ft,off) (by simp)
  simp only[hφ]at hl
  have hz:off+φ.size<=z:=by
   have:∀(fs:List (Nat×Nat)) (o:Nat),A4 T o fs z=true->o<=z:=by
    intro fs
    induction fs with
    | nil=>intro o h;simp only[A4,beq_iff_eq]at h;omega
    | cons p fs ih =>
     intro o h
     obtain⟨a,b⟩:=p
     simp only[A4,afp]at h
     have h2:=h.2
     split at h2
     ·have:=ih _ h2;omega
     ·cases h2
   exact this fs _ hl
  obtain⟨xs,hx,hxs⟩:=Tf fs (off+φ.size) z f hl hc (fun p h=>hp p (age _ h)) hz
  have hfl:(f (ft,off)).length=φ.size:=by
   rw[hR.1,ae7,ae8,hc];omega
  refine⟨f (ft,off)++xs,?_,fun p h =>?_⟩
  ·have:=hR.append hx
   rw[<- agz,agA]at this
   exact this
  ·rcases aeV.1 h with rfl|h
   ·exact⟨φ,hφ,aeO _,by simp only[afR,af7];rw[af5 (by omega),af6 (by omega)]⟩
   ·obtain⟨ψ,h1,h2,h3⟩:=hxs p h
    refine⟨ψ,h1,by omega,?_⟩
    rw[agw,agx (by omega),agu,hfl]
    have:p.2-off-φ.size=p.2-(off+φ.size):=by omega
    rw[this,h3]
theorem mJ.one {w:World} {M:Nat->Prop} {x:D} {v:Value} (hp:aU x=true) (h:RP w M x v):mJ w M [x] [v]:=by
 refine⟨rfl,fun j y hj =>?_⟩
 match j,hj with
 | 0,hj=>simp only[List.getElem?_cons_zero,aeX]at hj;subst hj;exact⟨hp,v,rfl,h⟩
 | j+1,hj=>simp at hj
theorem mJ.flat {w:World} {M:Nat->Prop} {cs:List Value} {s:Nat} : ∀(ls:List (List D)) (o:Nat),(∀(i:Nat) l,ls[i]? = some l->mJ w M l ((cs.drop (o+i*s)).take s))->(∀l∈ls,l.length=s)->mJ w M ls.flatten ((cs.drop o).take (ls.length*s))
 | [],o,_,_=>⟨by simp,fun j x hj=>by simp at hj⟩
 | a::ls,o,h,hl=>by
  have h0:=h 0 a rfl
  have h1:=mJ.flat ls (o+s) (fun i l hi=>by
   have:=h (i+1) l (by simpa using hi)
   rw[afJ]at this
   rw[show o+s+i*s=o+(i*s+s) by omega]
   exact this) (fun l hx=>hl l (age _ hx))
  have:=h0.append h1
  rw[agB,afn]at this
  rw[List.flatten_cons,afe,afJ,Nat.add_comm (ls.length*s) s,List.take_add,agz]
  exact this
theorem abv (hT:kq P T) {M:Nat->Prop} (hM:∀b,base<=b->b<w.heap.size->¬M b):∀(n t fuel:Nat) (cs:List Value) (x:DataW H×List MemPlace),Vn T n t=true->DataW.trod enc P w base spare held fuel t cs=some x->Reach P t x.1->∃xs,Cq T n t xs∧mJ w M xs cs:=by
 intro n
 induction n with
 | zero=>intro t fuel cs x h;cases h
 | succ n ih =>
  intro t fuel cs x hok h hw
  unfold Vn at hok
  unfold Cq
  cases hτ:T t with
  | none=>rw[hτ]at hok;cases hok
  | some τ =>
   rw[hτ]at hok
   simp only at hok ⊢
   obtain⟨d,hd,hc⟩:=under hT hτ
   cases hds:τ.ds with
   | int k =>
    rw[hds]at hok hc
    simp only[beq_iff_eq]at hok
    have hd':=xX hc
    subst hd'
    obtain⟨i,rfl,_,hw⟩:=DataW.trod_int hd h
    exact⟨[.int k i],⟨by rw[hok];rfl,i,rfl,hw⟩,.one rfl (.int k i)⟩
   | bool =>
    rw[hds]at hok hc
    simp only[beq_iff_eq]at hok
    have hd':=vu hc
    subst hd'
    obtain⟨b,rfl,_⟩:=DataW.trod_bool hd h
    exact⟨[.bool b],⟨by rw[hok];rfl,b,rfl⟩,.one rfl (.bool b)⟩
   | str =>
    rw[hds]at hok hc
    simp only[beq_iff_eq]at hok
    have hd':=qW hc
    subst hd'
    obtain⟨s,rfl,rfl,hs⟩:=DataW.trod_string hd h
    have hs':s.size<=140737488351232:=by
     have:=hw s.data.toList.length (by simp[DataW.weights])
     simpa using this
    exact⟨[.str s],⟨by rw[hok];rfl,s,rfl,hs'⟩,.one rfl (.str s)⟩
   | map _ _=>rw[hds]at hok;cases hok
   | other=>rw[hds]at hok;cases hok
   | struct fs =>
    rw[hds]at hok hc
    simp only[afp,aeZ]at hok
    obtain⟨F,rfl,hF⟩:=iE hc
    obtain⟨ys,m,_,rfl,hlen,hyl,hf⟩:=DataW.trod_struct hd h
    have hwy:∀(i:Nat) (f:Field) y,F[i]? = some f->ys[i]? = some y->Reach P f.type y.1:=by
     intro i f y hfi hyi k hk
     apply hw k
     simp only[DataW.weights,hd]
     exact DataW.weights_mem_each (j:=i) (t:=f.type) (d:=y.1) (by rw[aeL,afE,hfi];rfl) (by simp[hyi]) k hk
    rw[(hT t τ hτ).cells]at hlen
    have hone:∀p:Nat×Nat,∃zs,p∈fs->∃φ,T p.1=some φ∧Cq T n p.1 zs∧mJ w M zs ((cs.drop p.2).take φ.size):=by
     intro p
     by_cases hp:p∈fs
     ·have hokp:=hok.2 p hp
      rw[<- hF]at hp
      obtain⟨f,hfm,rfl⟩:=aeN.1 hp
      obtain⟨i,hi⟩:=List.mem_iff_getElem?.1 hfm
      have h1:=hf i f (by simpa using hi)
      simp only at hokp ⊢
      cases hφ:T f.type with
      | none=>cases n with
       | zero=>cases hokp
       | succ n=>simp only[Vn,hφ]at hokp;cases hokp
      | some φ =>
       rw[(hT _ φ hφ).cells]at h1
       have hi':i<ys.length:=by
        have:=(afh.1 hi).1
        simp only[Array.length_toList]at this
        omega
       rw[ae1 hi']at h1
       obtain⟨zs,hz1,hz2⟩:=ih _ _ _ _ hokp h1 (hwy i f _ (by simpa using hi) (ae1 hi'))
       exact⟨zs,fun _=>⟨φ,rfl,hz1,hz2⟩⟩
     ·exact⟨[],fun h=>(hp h).elim⟩
    obtain⟨f,hf2⟩:=Classical.axiomOfChoice hone
    obtain⟨xs,hx,hparts⟩:=Tf fs 0 τ.size f hok.1 hlen (fun p hp=>by obtain⟨φ,a,_,b⟩:=hf2 p hp;exact⟨φ,a,b⟩) (aeP _)
    rw[af7]at hx
    refine⟨xs,⟨by rw[hx.1,hlen],fun p hp =>?_⟩,hx⟩
    obtain⟨φ,h1,_,h3⟩:=hparts p hp
    obtain⟨ψ,g1,g2,_⟩:=hf2 p hp
    rw[h1]at g1
    cases g1
    rw[Nat.sub_zero]at h3
    exact⟨φ,h1,by rw[h3];exact g2⟩
   | arr m e =>
    rw[hds]at hok hc
    simp only[afp]at hok
    have hd':=xW hc
    subst hd'
    obtain⟨ys,k,_,rfl,hlen,hyl,hf⟩:=DataW.trod_array hd h
    have hwy:∀(i:Nat) y,ys[i]? = some y->Reach P e y.1:=by
     intro i y hyi k hk
     apply hw k
     simp only[DataW.weights,hd]
     exact Ah _ i y.1 (by simp[hyi]) k hk
    rw[(hT t τ hτ).cells]at hlen
    obtain⟨hok1,hok2⟩:=hok
    split at hok2
    ·rename_i φ hφ
     simp only[beq_iff_eq]at hok2
     have hone:∀i:Nat,∃zs,i<m->Cq T n e zs∧mJ w M zs ((cs.drop (i*φ.size)).take φ.size):=by
      intro i
      by_cases hi:i<m
      ·have h1:=hf i hi
       rw[(hT _ φ hφ).cells,ae1 (by omega)]at h1
       obtain⟨zs,hz1,hz2⟩:=ih _ _ _ _ hok1 h1 (hwy i _ (ae1 (by omega)))
       exact⟨zs,fun _=>⟨hz1,hz2⟩⟩
      ·exact⟨[],fun h=>(hi h).elim⟩
     obtain⟨f,hf2⟩:=Classical.axiomOfChoice hone
     have hls:∀l∈(List.range m).map f,l.length=φ.size:=by
      intro l hl
      obtain⟨i,hi,rfl⟩:=aeN.1 hl
      have hi:=agq.1 hi
      rw[(hf2 i hi).2.1,ae7,ae8,hlen,hok2]
      have:(i+1)*φ.size<=m*φ.size:=afA _ hi
      rw[afJ]at this
      omega
     have hget:∀(i:Nat) l,((List.range m).map f)[i]? = some l->i<m∧l=f i:=by
      intro i l hl
      rw[aeL,aeM]at hl
      obtain⟨j,hj,rfl⟩:=hl
      obtain⟨hj1,hj2⟩:=afh.1 hj
      simp only[afj]at hj1
      simp only[afk]at hj2
      exact⟨hj1,by rw[hj2]⟩
     have hall:mJ w M ((List.range m).map f).flatten ((cs.drop 0).take (((List.range m).map f).length*φ.size)):=by
      refine mJ.flat _ 0 (fun i l hl =>?_) hls
      obtain⟨hi,rfl⟩:=hget i l hl
      rw[afB]
      exact (hf2 i hi).2
     rw[afi,afj,af7,af6 (by omega)]at hall
     refine⟨_,⟨by rw[hall.1,hlen],φ,hφ,fun i hi =>?_⟩,hall⟩
     have hi':((List.range m).map f)[i]? = some (f i):=by simp[hi]
     rw[DC φ.size _ hls i _ hi']
     exact (hf2 i hi).1
    ·cases hok2
   | slice e =>
    rw[hds]at hok hc
    simp only[afp,beq_iff_eq]at hok
    have hd':=fi hc
    subst hd'
    obtain⟨⟨hone,hoke⟩,hpos⟩:=hok
    split at hpos
    ·rename_i φ hφ
     simp only[decide_eq_true_eq]at hpos
     rcases open_slice hd h with⟨rfl,_⟩|⟨a,len,cap,m,k,D',Pl,rfl,hb,hl,hm,hmm,rfl,hi⟩
     ·refine⟨[.sl false false 0 []],⟨by rw[hone];rfl,0,[],φ,rfl,by omega,hφ,by simp,fun i hi=>by omega⟩,.one rfl ?_⟩
      exact .sl none 0 false false 0 [] (fun _=>undef) (aeO _) (aeP _) (fun h=>by cases h) (fun _=>⟨rfl,rfl⟩) (fun h=>by cases h) (fun h=>(h rfl).elim) (fun j x hj=>by simp at hj) (fun x hx=>by simp at hx)
     ·have hlm:len<=m:=by rw[hmm];split<;>omega
      have hwl:len*φ.bytes<=140737488351232:=by
       have h1:=hw ((((List.range len).map D').length+((List.range (m-len)).map fun j=>D' (len+j)).length)*P.bytesOf e) (by simp[DataW.weights,hd])
       rw[(hT _ φ hφ).bytesOf]at h1
       simp only[afi,afj]at h1
       exact aeQ (afA _ (by omega)) h1
      have hwy:∀i,i<len->Reach P e (D' i):=by
       intro i hi' k hk
       apply hw k
       simp only[DataW.weights,hd,aeV,afV]
       exact .inr (.inl (Ah _ i (D' i) (by simp[hi']) k hk))
      have hone':∀i:Nat,∃zs,i<len->Cq T n e zs∧zs.length=φ.size∧∀(j:Nat) z,zs[j]? = some z->aU z=true∧∃v,w.cell? (a.add (i*φ.size+j))=some v∧RP w M z v:=by
       intro i
       by_cases hil:i<len
       ·obtain⟨cs',hc1,hc2⟩:=hi i (by omega)
        rw[(hT _ φ hφ).cells]at hc1
        obtain⟨_,g1,g2⟩:=World.cells?_some hc1
        obtain⟨zs,hz1,hz2⟩:=ih _ _ _ _ hoke hc2 (hwy i hil)
        refine⟨zs,fun _=>⟨hz1,by rw[hz2.1,g1],fun j z hj =>?_⟩⟩
        obtain⟨p1,v,p2,p3⟩:=hz2.2 j z hj
        refine⟨p1,v,?_,p3⟩
        have hj':j<φ.size:=by rw[<- g1];exact (afh.1 p2).1
        rw[<- Go.Deep.add_add,g2 j hj',p2]
       ·exact⟨[],fun h=>(hil h).elim⟩
      obtain⟨f,hf2⟩:=Classical.axiomOfChoice hone'
      have hls:∀l∈(List.range len).map f,l.length=φ.size:=by
       intro l hl
       obtain⟨i,hi,rfl⟩:=aeN.1 hl
       exact (hf2 i (agq.1 hi)).2.1
      have hfl:((List.range len).map f).flatten.length=len*φ.size:=by rw[Mu φ.size _ hls];simp
      have hseg:∀i,i<len->(((List.range len).map f).flatten.drop (i*φ.size)).take φ.size=f i:=fun i hi=>DC φ.size _ hls i (f i) (by simp[hi])
      have hat:∀(p:Nat) z,((List.range len).map f).flatten[p]? = some z->aU z=true∧∃v,w.cell? (a.add p)=some v∧RP w M z v:=by
       intro p z hp
       have hpl:=(afh.1 hp).1
       rw[hfl]at hpl
       have hq:p / φ.size<len:=Nat.div_lt_of_lt_mul (by rwa [afK])
       have hr:p % φ.size<φ.size:=Nat.mod_lt _ hpos
       have he:p / φ.size*φ.size+p % φ.size=p:=Nat.div_add_mod' p φ.size
       have hz:(f (p / φ.size))[p % φ.size]? = some z:=by
        rw[<- hseg _ hq,ae4,if_pos hr,ae5,he]
        exact hp
       have:=(hf2 _ hq).2.2 _ z hz
       rw[he]at this
       exact this
      refine⟨[.sl false false len ((List.range len).map f).flatten],⟨by rw[hone];rfl,len,_,φ,rfl,hwl,hφ,hfl,fun i hi=>by rw[hseg i hi];exact (hf2 i hi).1⟩,.one rfl ?_⟩
      refine .sl (some a) cap false false len _ (fun j=>(w.cell? (a.add j)).getD undef) hl hm (fun h=>by cases h) (fun h=>by cases h) (fun h=>by cases h) (fun hne =>?_) (fun j z hj =>?_) (fun z hz =>?_)
      ·have h0:0<((List.range len).map f).flatten.length:=agC.2 hne
       obtain⟨_,v,hv,_⟩:=hat 0 _ (ae1 h0)
       obtain⟨b,o,sp⟩:=a
       have hsp:sp=none:=by
        unfold World.cell? at hv
        split at hv
        ·split at hv
         ·cases hv
         ·rename_i h;simpa [Addr.add] using h
        ·cases hv
       subst hsp
       have hbs:b<w.heap.size:=by
        unfold World.cell? at hv
        split at hv
        ·rename_i hh;exact (aeS.1 hh).1
        ·cases hv
       refine⟨b,o,rfl,hbs,hM b hb hbs,fun j hj =>?_⟩
       obtain⟨_,v,hv,_⟩:=hat j _ (ae1 hj)
       have ha:Addr.add ⟨b,o,none⟩ j=⟨b,o+j,none⟩:=by
        unfold Addr.add
        split
        ·rename_i h0;rw[h0];rfl
        ·rfl
       have hv':w.cell? ⟨b,o+j,none⟩=some v:=by rw[<- ha];exact hv
       rw[hv']
       simp only[hv,Option.getD_some]
      ·obtain⟨_,v,hv,hr⟩:=hat j z hj
       rw[hv]
       exact hr
      ·obtain⟨j,hj⟩:=List.mem_iff_getElem?.1 hz
       exact (hat j z hj).1
    ·cases hpos
def rB (T:Nat->Option Ty) (n t:Nat) (d:D):Prop :=
 match T t with
 | some τ=>if τ.ds.oQ then ∃xs,d=.agg xs∧Cq T n t xs else Cq T n t [d]
 | none=>False
theorem mJ.agg {w:World} {M:Nat->Prop} {xs:List D} {cs:Array Value} (h:mJ w M xs cs.toList):RP w M (.agg xs) (.agg cs):=by
 have:=RP.agg (w:=w) (M:=M) xs cs.toList h.1.symm (fun j x hj=>by
  obtain⟨_,v,h1,h2⟩:=h.2 j x hj
  simp only[List.getD,h1,Option.getD_some]
  exact h2) (fun x hx=>by
  obtain⟨j,hj⟩:=List.mem_iff_getElem?.1 hx
  exact (h.2 j x hj).1)
 simpa using this
theorem mJ.single {w:World} {M:Nat->Prop} {xs:List D} {v:Value} (h:mJ w M xs [v]):∃x,xs=[x]∧RP w M x v:=by
 match xs,h with
 | [],h=>have:=h.1;simp at this
 | [x],h=>obtain⟨_,u,h1,h2⟩:=h.2 0 x rfl;simp only[List.getElem?_cons_zero,aeX]at h1;subst h1;exact⟨x,rfl,h2⟩
 | x::y::xs,h=>have:=h.1;simp at this
theorem Zu (hT:kq P T) {M:Nat->Prop} (hM:∀b,base<=b->b<w.heap.size->¬M b) {n t b0:Nat} {v:Value} {d:DataW H} {ps:List MemPlace} (hok:Vn T n t=true) (hv:Value.okWide P w .any b0 t v) (h:DataW.Trod enc P w base spare held t v d ps) (hw:Reach P t d) :
  ∃x,rB T n t x∧RP w M x v:=by
 obtain⟨fuel,h⟩:=h
 obtain⟨xs,h1,h2⟩:=abv hT hM n t fuel _ _ hok h hw
 unfold rB
 cases n with
 | zero=>cases hok
 | succ n =>
 cases hτ:T t with
 | none=>simp only[Vn,hτ]at hok;cases hok
 | some τ =>
  simp only
  obtain⟨d',hd,hc⟩:=under hT hτ
  cases hds:τ.ds with
  | int k =>
   rw[hds]at hc
   have hd':=xX hc
   subst hd'
   obtain⟨i,rfl⟩:=okWide_int hd hv
   obtain⟨x,rfl,hx⟩:=mJ.single (v := .int k i) h2
   exact⟨x,by simpa [Ds.oQ] using h1,hx⟩
  | bool =>
   rw[hds]at hc
   have hd':=vu hc
   subst hd'
   obtain⟨i,rfl⟩:=okWide_bool hd hv
   obtain⟨x,rfl,hx⟩:=mJ.single (v := .bool i) h2
   exact⟨x,by simpa [Ds.oQ] using h1,hx⟩
  | str =>
   rw[hds]at hc
   have hd':=qW hc
   subst hd'
   obtain⟨i,rfl⟩:=okWide_string hd hv
   obtain⟨x,rfl,hx⟩:=mJ.single (v := .string i) h2
   exact⟨x,by simpa [Ds.oQ] using h1,hx⟩
  | slice e =>
   rw[hds]at hc
   have hd':=fi hc
   subst hd'
   obtain⟨a,len,cap,rfl⟩:=okWide_slice hd hv
   obtain⟨x,rfl,hx⟩:=mJ.single (v := .slice a len cap) h2
   exact⟨x,by simpa [Ds.oQ] using h1,hx⟩
  | struct fs =>
   rw[hds]at hc
   obtain⟨F,rfl,_⟩:=iE hc
   obtain⟨cs,rfl,_⟩:=okWide_struct hd hv
   exact⟨.agg xs,by simpa [Ds.oQ] using h1,mJ.agg h2⟩
  | arr m e =>
   rw[hds]at hc
   have hd':=xW hc
   subst hd'
   have:∃cs,v=.agg cs:=by
    unfold Value.okWide at hv
    rw[hd]at hv
    obtain⟨cs,h,_⟩:=hv
    exact⟨cs,h⟩
   obtain⟨cs,rfl⟩:=this
   exact⟨.agg xs,by simpa [Ds.oQ] using h1,mJ.agg h2⟩
  | map _ _=>simp only[Vn,hτ,hds]at hok;cases hok
  | other=>simp only[Vn,hτ,hds]at hok;cases hok
theorem Gn (hT:kq P T) {M:Nat->Prop} (hM:∀b,base<=b->b<w.heap.size->¬M b) {n b0:Nat} : ∀(ts:List TypeId) (vs:List Value) (ds:List (DataW H)) (ps:List MemPlace),DataW.TrodAll enc P w base spare held ts vs ds ps ->
  (∀(j:Nat) t v,ts[j]? = some t->vs[j]? = some v->Value.okWide P w .any b0 t v)->(∀t∈ts,Vn T n t=true)->(∀k∈DataW.weightsEach P ts ds,k<=140737488351232) ->
  ∃ar:List D,ar.length=vs.length∧(∀(j:Nat) x,ar[j]? = some x->∃v,vs[j]? = some v∧RP w M x v)∧ar.length=ts.length∧∀(j:Nat) t,ts[j]? = some t->∃x,ar[j]? = some x∧rB T n t x
 | [],[],[],ps,_,_,_,_=>⟨[],rfl,fun j x hj=>by simp at hj,rfl,fun j t hj=>by simp at hj⟩
 | t::ts,v::vs,d::ds,ps,h,hv,hok,hw=>by
  obtain⟨p,q,h1,h2,_⟩:=h
  obtain⟨x,hx1,hx2⟩:=Zu hT hM (hok t (by simp)) (hv 0 t v rfl rfl) h1 (fun k hk=>hw k (by simp only[DataW.weightsEach,afV];exact .inl hk))
  obtain⟨ar,g1,g2,g3,g4⟩:=Gn hT hM ts vs ds q h2 (fun j t' v' a b=>hv (j+1) t' v' (by simpa using a) (by simpa using b)) (fun t' ht=>hok t' (age _ ht)) (fun k hk=>hw k (by simp only[DataW.weightsEach,afV];exact .inr hk))
  refine⟨x::ar,by simp[g1],fun j y hj =>?_,by simp[g3],fun j t' hj =>?_⟩
  ·cases j with
   | zero=>simp only[List.getElem?_cons_zero,aeX]at hj;subst hj;exact⟨v,rfl,hx2⟩
   | succ j=>simpa using g2 j y (by simpa using hj)
  ·cases j with
   | zero=>simp only[List.getElem?_cons_zero,aeX]at hj;subst hj;exact⟨x,rfl,hx1⟩
   | succ j=>simpa using g4 j t' (by simpa using hj)
 | [],[],_::_,_,h,_,_,_=>h.elim
 | [],_::_,_,_,h,_,_,_=>h.elim
 | _::_,[],_,_,h,_,_,_=>h.elim
 | _::_,_::_,[],_,h,_,_,_=>h.elim
end
end Go.Proofs.Ytchndpjlijbplaa.Am
namespace Go.Proofs.Ytchndpjlijbplaa.Am
open Go.RowKit Go.Deep Go.ChangeShapes Go.WideShapes Go.ChangeAt
section
variable {H:Type} {enc:TypeId×Value->H} {P:Program}
theorem FZ {f:Func} {s:ChangeSpec} {apart fresh handsOn again:Bool} {W W':World} {args:Array Value} {v:Value} {ds gs:List (DataW H)} {before pa pv:List MemPlace}
  (hW:DataW.Whole enc P f.params.toList s.vars apart W args.toList ds gs before)
  (hres:∀(b:Nat) (sp:Nat->Bool) (hd:Bool),DataW.TrodAll enc P W' b sp hd f.resultTypes.toList (v.resultList f.resultTypes.size) (s.fn H (ds++gs)).results [])
  (hargs:∀sp:Nat->Bool,(∀p∈before,sp p.block=true)->DataW.TrodAll enc P W' 0 sp true f.params.toList args.toList (s.fn H (ds++gs)).args pa)
  (hvars:∀sp:Nat->Bool,(∀p∈before,sp p.block=true)->DataW.TrodVars enc P W' sp s.vars (s.fn H (ds++gs)).vars pv)
  (hps:before=pa++pv) (hb:Below W.heap.size W W')
  (hok:∀(j:Nat) (t:TypeId) (r:Value),f.resultTypes[j]? = some t->(v.resultList f.resultTypes.size)[j]? = some r->Value.okWide P W' .any 0 t r) :
  s.post enc P f apart fresh handsOn again W args v W':=by
 have hlt:∀p∈before,p.block<W.heap.size:=fun p hp=>hW.lt p hp
 have hold:∀p∈before,(fun b=>decide (b<W.heap.size)) p.block=true:=fun p hp=>by simpa using hlt p hp
 refine⟨ds,gs,before,[],pa,pv,hW,hres _ _ _,hargs _ hold,hvars _ hold,World.keptBut_mono (fun p hp=>⟨hp,?_⟩) (hb.frame (·∈before)),fun _ =>?_⟩
 ·rw[hps,afV]at hp
  exact Or.inr hp
 ·obtain⟨_,_,_,_,_,hz,hn⟩:=hW
  refine⟨hok,_,_,([]++pa)++pv,⟨[]++pa,pv,trodAll_append (hargs _ (fun _ _=>rfl)) (hres _ _ _),hvars _ (fun _ _=>rfl),rfl,?_,?_⟩,?_⟩
  ·intro b off hp
   have hin:MemPlace.cell b off∈before:=by rw[hps];simpa using hp
   rw[hb.frozen (hlt _ hin)]
   exact hz b off hin
  ·intro ha
   have:=hn ha
   rw[hps]at this
   simpa using this
  ·intro p hp _
   rw[hps]
   simpa using hp
theorem w7 (hl:laidOutB P=true) {W W':World} {sp':Nat->Bool} : ∀ {ts:List TypeId} {vs:List Value} {ds:List (DataW H)} {ps:List MemPlace},(∀t∈ts,P.readableRec t=true∧t<P.types.size)->DataW.TrodAll enc P W 0 (fun _=>true) true ts vs ds ps ->
  (∀p∈ps,W.sameAt W' p)->(∀p∈ps,sp' p.block=true)->DataW.TrodAll enc P W' 0 sp' true ts vs ds ps
 | [],[],[],_,_,h,_,_=>h
 | t::ts,v::vs,d::ds,_,hr,⟨p,q,h1,h2,e⟩,hs,hp=>by
  subst e
  have ht:=hr t (by simp)
  exact⟨p,q,WideElems.Trod_stays hl ht.1 ht.2 h1 (fun x hx=>hs x (ae2 _ hx)) (fun x hx=>hp x (ae2 _ hx)),
   w7 hl (fun t ht=>hr t (age _ ht)) h2 (fun x hx=>hs x (ae3 _ hx)) (fun x hx=>hp x (ae3 _ hx)),rfl⟩
end
theorem X7 {H:Type} {enc:TypeId×Value->H} {C:Checked} {T:Nat->Option Ty} {f:FuncId} {fn:Func} {s:ChangeSpec} {apart fresh handsOn again:Bool} {tb n:Nat} (hT:kq C.prog T)
  (hl:laidOutB C.prog=true) (hr:(fn.params.toList.all fun t=>C.prog.readableRec t&&decide (t<C.prog.types.size)&&Vn T n t)=true)
  (hres:fn.resultTypes = #[tb]) (htb:C.prog.underlying tb=some .bool) (hv:s.vars=[])
  (hs:∀ds:List (DataW H),ds.length=fn.params.toList.length->(s.fn H ds).results=[.lit (.bool true)]∧(s.fn H ds).args=ds∧(s.fn H ds).vars=[])
  (law:∀ar:List D,ar.length=fn.params.toList.length->(∀(j:Nat) t,fn.params.toList[j]? = some t->∃x,ar[j]? = some x∧rB T n t x)->Pz C.prog f ar (.bool true))
  {W:World} {base:Nat} {args:Array Value} {ds gs:List (DataW H)} {before:List MemPlace}
  (hval:∀(j:Nat) t v,fn.params[j]? = some t->args[j]? = some v->Value.okWide C.prog W .any base t v) (hW:DataW.Whole enc C.prog fn.params.toList s.vars apart W args.toList ds gs before)
  (hsz:(DataW.weightsEach C.prog (fn.params.toList++s.plain.varTypes C.prog) (ds++gs)).all (·<=reachBytes)=true) (hTab:Um W (fun _=>False)) :
  Calls C.prog f args W fun e W'=>∃v,e=.returned v∧s.post enc C.prog fn apart fresh handsOn again W args v W':=by
 have hW':=hW
 obtain⟨p,q,hA,hV,rfl,hfz,hnd⟩:=hW
 rw[hv]at hV
 obtain⟨rfl,rfl⟩:=trodVars_none hV
 simp only[aeZ,afp,decide_eq_true_eq]at hr
 obtain⟨ar,h1,h2,h3,h4⟩:=Gn (P:=C.prog) hT (M:=fun _=>False) (fun b _ _ h=>h) (n:=n) (b0:=base) fn.params.toList args.toList ds p hA
  (fun j t v a b=>hval j t v (by simpa using a) (by simpa using b)) (fun t ht=>(hr t ht).2) (fun k hk=>by
   rw[aeZ]at hsz
   have hv0:s.plain.varTypes C.prog=[]:=by unfold ChangeSpec.plain;simp only[hv];rfl
   rw[hv0,agD,agD]at hsz
   have h:=hsz k hk
   rw[decide_eq_true_eq]at h
   exact h)
 refine (law ar h3 h4 W (fun _=>False) args (fun b h=>h.elim) ⟨by simpa using h1.symm,fun j x hj =>?_,hTab⟩).mono fun e W' hG =>?_
 ·obtain⟨v,g1,g2⟩:=h2 j x hj
  have g1':args[j]? = some v:=by simpa using g1
  rw[aeT,g1']
  exact g2
 ·obtain⟨v,rfl,hb,hv1⟩:=hG
  have hv2:RP W' (fun _=>False) (.bool true) v:=hv1
  cases hv2
  have hlen:ds.length=fn.params.toList.length:=by
   have:∀ {ts:List TypeId} {vs:List Value} {ds:List (DataW H)} {ps:List MemPlace},DataW.TrodAll enc C.prog W 0 (fun _=>true) true ts vs ds ps->ds.length=ts.length:=by
    intro ts
    induction ts with
    | nil=>intro vs ds ps h;cases vs<;>cases ds<;>first|rfl|exact h.elim
    | cons t ts ih =>
     intro vs ds ps h
     cases vs with
     | nil=>exact h.elim
     | cons v vs=>cases ds with
      | nil=>exact h.elim
      | cons d ds=>obtain⟨_,_,_,h2,_⟩:=h;simp[ih h2]
   exact this hA
  obtain⟨e1,e2,e3⟩:=hs ds hlen
  refine⟨_,rfl,FZ (pa:=p) (pv:=[]) hW' ?_ ?_ ?_ (by simp) hb ?_⟩
  ·intro b sp hd
   rw[agD,e1,hres]
   exact trodAll_mk1 ⟨1,by simp[DataW.trod,htb,Value.cells]⟩
  ·intro sp hsp
   rw[agD,e2]
   refine w7 hl (fun t ht=>(hr t ht).1) hA (fun x hx=>hb.same (hW'.lt x (by simpa using hx))) (fun x hx=>hsp x (by simpa using hx))
  ·intro sp _
   rw[agD,e3,hv]
   rfl
  ·exact ok_one hres rfl (by simp[Value.okWide,htb,Cell.okWide,Cell.ok])
theorem Rg {H:Type} {enc:TypeId×Value->H} {C:Checked} {os:Os} {T:Nat->Option Ty} {f:FuncId} {fn:Func} {s:ChangeSpec} {conds:List PathCond} {apart fresh handsOn again:Bool} {tb n:Nat}
  (hT:kq C.prog T) (own:ownKnob C.prog.godebug=none) (started:os.Started) (noInit:C.prog.inits.idxOf? f=none) (hfn:C.prog.funcs[f]? = some fn)
  (witness:∃(w:World) (tape:Tape) (i:Input),w.os=os∧(w.forCall tape i).Shaped C.prog∧i.vars=[]∧Input.okWide C.prog (w.forCall tape i) .any w.heap.size f i ∧
   s.pre6 enc C.prog fn conds apart (w.forCall tape i).memory i.args∧({} : Assume).holds C.prog (lone (Frame.enter C.prog f i.args .normal) [] (w.forCall tape i)))
  (hl:laidOutB C.prog=true) (hr:(fn.params.toList.all fun t=>C.prog.readableRec t&&decide (t<C.prog.types.size)&&Vn T n t)=true)
  (hres:fn.resultTypes = #[tb]) (htb:C.prog.underlying tb=some .bool) (hv:s.vars=[])
  (hs:∀ds:List (DataW H),ds.length=fn.params.toList.length->(s.fn H ds).results=[.lit (.bool true)]∧(s.fn H ds).args=ds∧(s.fn H ds).vars=[])
  (law:∀ar:List D,ar.length=fn.params.toList.length->(∀(j:Nat) t,fn.params.toList[j]? = some t->∃x,ar[j]? = some x∧rB T n t x)->Pz C.prog f ar (.bool true)) (hno:Yv=none:=by rfl) :
  ReturnsInHanded {} C os f .any (s.pre6 enc C.prog fn conds apart) (s.post enc C.prog fn apart fresh handsOn again):=by
 apply returnsInHanded_of_change_sized own started noInit hfn witness
 intro W base args ds gs before hval hW _ hsz _
 exact X7 hT hl hr hres htb hv hs law hval hW hsz (fun b hb=>by rw[hno]at hb;cases hb)
end Go.Proofs.Ytchndpjlijbplaa.Am
namespace Go.Proofs.Ytchndpjlijbplaa.Am
open Go.RowKit
theorem acr {T:Nat->Option Ty} {n t:Nat} {ar:List D} (h:ar.length=[t].length) (hs:∀(j:Nat) u,[t][j]? = some u->∃x,ar[j]? = some x∧rB T n u x):∃a,ar=[a]∧rB T n t a:=by
 match ar,h with
 | [a],_=>obtain⟨x,h1,h2⟩:=hs 0 t rfl;cases h1;exact⟨a,rfl,h2⟩
theorem acs {T:Nat->Option Ty} {n t:Nat} {ts:List Nat} {ar:List D} (h:ar.length=(t::ts).length) (hs:∀(j:Nat) u,(t::ts)[j]? = some u->∃x,ar[j]? = some x∧rB T n u x) :
  ∃a aeJ,ar=a::aeJ∧rB T n t a∧aeJ.length=ts.length∧∀(j:Nat) u,ts[j]? = some u->∃x,aeJ[j]? = some x∧rB T n u x:=by
 match ar,h with
 | a::aeJ,h =>
  obtain⟨x,h1,h2⟩:=hs 0 t rfl
  cases h1
  exact⟨a,aeJ,rfl,h2,by simpa using h,fun j u hu=>by simpa using hs (j+1) u (by simpa using hu)⟩
section
variable {T:Nat->Option Ty} {n t:Nat} {τ:Ty} {d:D}
theorem Zq {k:IntKind} (h:rB T (n+1) t d) (hτ:T t=some τ) (hd:τ.ds=.int k):∃i,d=.int k i∧(Lit.int k i).wf=true:=by
 simp only[rB,hτ,hd,Ds.oQ,afo,if_false,Cq]at h
 obtain⟨_,i,hi,hw⟩:=h
 cases hi
 exact⟨i,rfl,hw⟩
theorem PR {fs:List (Nat×Nat)} (h:rB T n t d) (hτ:T t=some τ) (hd:τ.ds=.struct fs):∃xs,d=.agg xs∧Cq T n t xs:=by
 simp only[rB,hτ,hd,Ds.oQ,if_true]at h
 exact h
theorem Up {e:Nat} (h:rB T n t d) (hτ:T t=some τ) (hd:τ.ds=.slice e):Cq T n t [d]:=by
 simp only[rB,hτ,hd,Ds.oQ,afo,if_false]at h
 exact h
theorem aak {k:IntKind} {xs:List D} (h:Cq T (n+1) t xs) (hτ:T t=some τ) (hd:τ.ds=.int k):∃i,xs=[.int k i]∧(Lit.int k i).wf=true:=by
 simp only[Cq,hτ,hd]at h
 exact h.2
theorem VG {e:Nat} {φ:Ty} {xs:List D} (h:Cq T (n+1) t xs) (hτ:T t=some τ) (hd:τ.ds=.slice e) (hφ:T e=some φ) :
  ∃len ys,xs=[.sl false false len ys]∧len*φ.bytes<=140737488351232∧ys.length=len*φ.size∧∀i,i<len->Cq T n e ((ys.drop (i*φ.size)).take φ.size):=by
 simp only[Cq,hτ,hd]at h
 obtain⟨_,len,ys,ψ,h1,h3,h4,h5,h6⟩:=h
 rw[hφ]at h4
 cases h4
 exact⟨len,ys,h1,h3,h5,h6⟩
theorem RH {fs:List (Nat×Nat)} {xs:List D} (h:Cq T (n+1) t xs) (hτ:T t=some τ) (hd:τ.ds=.struct fs):xs.length=τ.size∧∀f∈fs,∃φ,T f.1=some φ∧Cq T n f.1 ((xs.drop f.2).take φ.size):=by
 simp only[Cq,hτ,hd]at h
 exact h
end
end Go.Proofs.Ytchndpjlijbplaa.Am
namespace Go.Proofs.Ytchndpjlijbplaa.Am
open Go.RowKit Go.Proofs.Ytchndpjlijbplaa.P
def KK {α:Type} (T:Nat->Option Ty) (n t:Nat) (E:jf α) (ok:α->Prop):Prop:=(∃φ,T t=some φ∧φ.size=E.size)∧∀xs,Cq T n t xs->∃x,xs=E.cells x∧ok x
section
variable {T:Nat->Option Ty} {n t:Nat} {τ:Ty}
theorem opI {k:IntKind} (hτ:T t=some τ) (hd:τ.ds=.int k) (hs:τ.size=1):KK T (n+1) t (eI k) (fun i=>(Lit.int k i).wf=true):=⟨⟨τ,hτ,hs⟩,fun _ h=>aak h hτ hd⟩
theorem aa9 {α:Type} (E:jf α) (ok:α->Prop):∀(len:Nat) (ys:List D),ys.length=len*E.size->(∀i,i<len->∃x,(ys.drop (i*E.size)).take E.size=E.cells x∧ok x)->∃l:List α,l.length=len∧ys=ae E l∧∀x∈l,ok x
 | 0,ys,hl,_=>⟨[],rfl,by simpa [ae] using hl,fun x hx=>by simp at hx⟩
 | len+1,ys,hl,h=>by
  obtain⟨x,hx,hok⟩:=h 0 (by omega)
  obtain⟨l,h1,h2,h3⟩:=aa9 E ok len (ys.drop E.size) (by rw[ae8,hl,afJ];omega) (fun i hi=>by
   obtain⟨y,hy,hy2⟩:=h (i+1) (by omega)
   refine⟨y,?_,hy2⟩
   rw[agz]
   rw[afJ,Nat.add_comm]at hy
   exact hy)
  rw[agB,af7]at hx
  refine⟨x::l,by simp[h1],?_,fun y hy =>?_⟩
  ·rw[a7,<- h2,<- hx,agA]
  ·rcases aeV.1 hy with rfl|hy
   ·exact hok
   ·exact h3 y hy
theorem Z0 {α:Type} {E:jf α} {ok:α->Prop} {e:Nat} (hτ:T t=some τ) (hd:τ.ds=.slice e) (hs:τ.size=1) {B:Nat} (hB:(T e).map (·.bytes)=some B) (he:KK T n e E ok):KK T (n+1) t (Md E) (fun l=>l.length*B<=140737488351232∧∀x∈l,ok x):=by
 obtain⟨⟨φ,hφ,hz⟩,hx⟩:=he
 have hb:φ.bytes=B:=by rw[hφ]at hB;simpa using hB
 refine⟨⟨τ,hτ,hs⟩,fun xs h =>?_⟩
 obtain⟨len,ys,h1,h2,h3,h4⟩:=VG h hτ hd hφ
 rw[hz]at h3 h4
 rw[hb]at h2
 obtain⟨l,k1,k2,k3⟩:=aa9 E ok len ys h3 fun i hi=>hx _ (h4 i hi)
 subst k1 k2
 exact⟨l,h1,h2,k3⟩
def OpF {α:Type} (T:Nat->Option Ty) (n:Nat) (fs:List (Nat×Nat)) (o:Nat) (E:jf α) (ok:α->Prop):Prop :=
 ∀xs:List D,xs.length=o+E.size->(∀f∈fs,∃φ,T f.1=some φ∧Cq T n f.1 ((xs.drop f.2).take φ.size))->∃x,xs.drop o=E.cells x∧ok x
theorem ZZ {α:Type} {E:jf α} {ok:α->Prop} {ft o:Nat} (h:KK T n ft E ok):OpF T n [(ft,o)] o E ok:=by
 obtain⟨⟨φ,hφ,hz⟩,hx⟩:=h
 intro xs hl hf
 obtain⟨ψ,h1,h2⟩:=hf (ft,o) (by simp)
 cases hφ.symm.trans h1
 rw[af6 (by rw[ae8];omega)]at h2
 exact hx _ h2
theorem XX {α β:Type} {E:jf α} {ok:α->Prop} {E':jf β} {ok':β->Prop} {ft o o':Nat} {fs:List (Nat×Nat)} (h:KK T n ft E ok) (ho:o'=o+E.size) (h':OpF T n fs o' E' ok'):OpF T n ((ft,o)::fs) o (yh E E') (fun x=>ok x.1∧ok' x.2):=by
 subst ho
 obtain⟨⟨φ,hφ,hz⟩,hx⟩:=h
 intro xs hl hf
 obtain⟨ψ,h1,h2⟩:=hf (ft,o) (by simp)
 cases hφ.symm.trans h1
 obtain⟨x,hx1,hx2⟩:=hx _ h2
 obtain⟨y,hy1,hy2⟩:=h' xs (by rw[hl];show o+(E.size+E'.size)=_;omega) fun f hf'=>hf f (age _ hf')
 refine⟨(x,y),?_,hx2,hy2⟩
 show xs.drop o=E.cells x++E'.cells y
 rw[<- hx1,<- hy1,<- hz,<- agz,agA]
theorem opS {α β:Type} {E:jf β} {ok:β->Prop} {f:α->β} {hf:∀x y,f x=f y->x=y} {g:β->α} {fs:List (Nat×Nat)} (hτ:T t=some τ) (hd:τ.ds=.struct fs) (hs:τ.size=E.size) (hg:∀y,f (g y)=y) (h:OpF T n fs 0 E ok):KK T (n+1) t (Me E f hf) (fun x=>ok (f x)):=by
 refine⟨⟨τ,hτ,hs⟩,fun xs hx =>?_⟩
 obtain⟨h1,h2⟩:=RH hx hτ hd
 obtain⟨y,h3,h4⟩:=h xs (by rw[h1,hs,afB]) h2
 refine⟨g y,?_,?_⟩
 ·show xs=E.cells (f (g y))
  rw[hg,<- h3,af7]
 ·show ok (f (g y))
  rw[hg];exact h4
def OpA {α:Type} (T:Nat->Option Ty) (n t:Nat) (A:Arg α) (ok:α->Prop):Prop:=∀d,rB T n t d->∃x,d=A.d x∧ok x
theorem oaI {k:IntKind} (hτ:T t=some τ) (hd:τ.ds=.int k):OpA T (n+1) t (aI k) (fun i=>(Lit.int k i).wf=true):=fun _ h=>Zq h hτ hd
theorem abT {α:Type} {E:jf α} {ok:List α->Prop} {e:Nat} (hτ:T t=some τ) (hd:τ.ds=.slice e) (hE:KK T n t (Md E) ok):OpA T n t (lM E) ok:=fun d h=>by
 obtain⟨x,h1,h2⟩:=hE.2 _ (Up h hτ hd)
 simp only[zM,afc,and_true]at h1
 exact⟨x,h1,h2⟩
theorem oaS {α:Type} {E:jf α} {ok:α->Prop} {fs:List (Nat×Nat)} (hτ:T t=some τ) (hd:τ.ds=.struct fs) (hE:KK T n t E ok):OpA T n t (dk E) ok:=fun d h=>by
 obtain⟨xs,rfl,h1⟩:=PR h hτ hd
 obtain⟨x,h1,h2⟩:=hE.2 _ h1
 exact⟨x,by rw[h1];rfl,h2⟩
def V0 {α:Type} (T:Nat->Option Ty) (n:Nat) (ts:List Nat) (A:lO α) (ok:α->Prop):Prop:=∀ar:List D,ar.length=ts.length->(∀(j:Nat) u,ts[j]? = some u->∃x,ar[j]? = some x∧rB T n u x)->∃x,ar=A.ds x∧ok x
theorem ad7 {α:Type} {A:Arg α} {ok:α->Prop} (h:OpA T n t A ok):V0 T n [t] (fH A) ok:=fun ar hl hs=>by
 obtain⟨a,rfl,ha⟩:=acr hl hs
 obtain⟨x,rfl,hx⟩:=h a ha
 exact⟨x,rfl,hx⟩
theorem ZV {α β:Type} {A:Arg α} {ok:α->Prop} {B:lO β} {ok':β->Prop} {ts:List Nat} (h:OpA T n t A ok) (h':V0 T n ts B ok'):V0 T n (t::ts) (jE A B) (fun x=>ok x.1∧ok' x.2):=fun ar hl hs=>by
 obtain⟨a,ar,rfl,ha,hl',hs'⟩:=acs hl hs
 obtain⟨x,rfl,hx⟩:=h a ha
 obtain⟨y,rfl,hy⟩:=h' ar hl' hs'
 exact⟨(x,y),rfl,hx,hy⟩
theorem abK {P:Program} {f:FuncId} {α:Type} {A:lO α} {F:α->Option Bool} {ok:α->Prop} {ts:List Nat} (ho:V0 T n ts A ok) (hG:bT P f (fR A F (fun r =>.clean (.bool r)))) (h:∀x,ok x->F x=some true) (ar:List D) (hl:ar.length=ts.length)
  (hs:∀(j:Nat) u,ts[j]? = some u->∃x,ar[j]? = some x∧rB T n u x):Pz P f ar (.bool true):=by
 obtain⟨x,rfl,hx⟩:=ho ar hl hs
 refine hG.calls none _ _ none ?_
 rw[aN,h x hx]
 rfl
end
def Di {α:Type} (e:jf α):jf (List α):=⟨fun l=>[.nx l.length (ae e l)],1,fun _=>rfl,by decide,fun x y h=>by
 simp only[afc,D.nx.injEq,and_true]at h
 exact uu e _ _ h.2⟩
theorem vv {α:Type} (e:jf α) (l:List α):(Di e).cells l=[.nx l.length (ae e l)]:=ahv
theorem yg {α:Type} (e:jf α):(Di e).size=1:=ahv
section
variable {α:Type} (E:jf α) {l:List α} {i:Int} {x x':α}
theorem Ki (cs:List D) (o:Nat) (d:D) (h:o<cs.length):(putCells cs o [d]).length=cs.length:=by
 simp[putCells];omega
theorem Kj (cs:List D) (o:Nat) (d d':D) (h:o<cs.length):putCells (putCells cs o [d]) o [d']=putCells cs o [d']:=by
 unfold putCells
 have h1:(cs.take o).length=o:=by simp;omega
 have h2:(cs.take o++[d]++cs.drop (o+[d].length)).take o=cs.take o:=by
  rw[af1,af5 (by omega),af6 (by omega)]
 have h3:(cs.take o++[d]++cs.drop (o+[d].length)).drop (o+[d'].length)=cs.drop (o+[d'].length):=by
  rw[af2 (by simp;omega),agx (by simp;omega),agu]
  rfl
 rw[h2,h3]
theorem J6 (fo:Nat) (h:P.idx l i=some x) (hfo:fo+1<=E.size):i.toNat*E.size+fo<(ae E l).length:=by
 have:=j9 E h
 rw[bQ]
 omega
theorem OG (fo:Nat) (d d':D) (h:P.idx l i=some x) (hc:E.cells x'=putCells (E.cells x) fo [d']) (hfo:fo+1<=E.size):putCells (putCells (ae E l) (i.toNat*E.size+fo) [d]) (i.toNat*E.size+fo) [d']=ae E (l.set i.toNat x'):=by
 rw[Kj _ _ _ _ (J6 E fo h hfo)]
 exact dF E fo [d'] h hc hfo
theorem TF (fo:Nat) (d:D) (h:P.idx l i=some x) (hfo:fo+1<=E.size):i.toNat*E.size+fo+1<=(putCells (ae E l) (i.toNat*E.size+fo) [d]).length:=by
 rw[Ki _ _ _ (J6 E fo h hfo)]
 exact J6 E fo h hfo
end
theorem IC {t s nv n o:Nat} {fz:Bool} {cs xs cs':List D} : Aj t s nv fz cs o (some ⟨nv,t,cs',fz,true,false⟩) (some (.nx n xs))=[.nr t s nv (putCells cs o [.nx n cs'])]:=by
 simp[Aj,H6]
theorem IB {t s nv n o:Nat} {fz:Bool} {cs xs:List D} : Aj t s nv fz cs o none (some (.nx n xs))=[.nr t s nv (putCells cs o [.und])]:=ahv
theorem Tt {α:Type} {E:jf α} {T:Nat->Option Ty} {el B ty' s f:Nat} {φ:Ty} {k:IntKind} {n:Int} {z:α} {m:List α} (hφ:T el=some φ) (hz:u4 φ f=E.cells z) (hs:φ.size=E.size) (hd:(φ.zero.map n9).all gr=true) (hl:φ.zero.length=φ.size) (hn:abS ((φ.zero.map n9).drop f).head? = true) (hB:φ.bytes=B) (h:B1 B n n z=some m)
  : ∀(b c:Nat) (z0:List Value) (q:Bool) (e d:Nat),d<1000000->lN T ⟨.slice el,b,c,z0,q⟩ e d ty' s f (.int k n) (.int k n)=some ⟨.buf d e φ.size 0 m.length,[(d,some ⟨e,el,[.nr ty' s (4*e+2) (ae E m)],false,true,true⟩)]⟩:=by
 intro b c z0 q e d hdp
 obtain⟨h1,h2,h3,h4,h5⟩:=mk_one E h
 have hnat:nO (.int k n)=some n.toNat:=by simp[nO,h1]
 have hpos:=E.pos
 unfold lN
 simp only[hφ,hnat]
 rw[if_pos ⟨aeO _,by rw[h2];exact h3,by rw[h2,hB];exact h5,by omega,hd,hl,by rw[cO];exact hdp,hn⟩,hz,h2,h4]
theorem GK {k:IntKind} {n:Int} : gr (.int k n)=true:=ahv
theorem CY {b:Bool} : gr (.bool b)=true:=ahv
theorem GL {b:ByteArray} : gr (.str b)=true:=ahv
theorem LR {a b:Bool} {n:Nat} {xs:List D} : gr (.sl a b n xs)=true:=ahv
def bL {α β:Type} (A:lO α) (F:α->Option β) (R:β->Nat×Nat×Nat×Nat×Nat×List D):List D->Option (Nat×Nat×Nat×Nat×Nat×List D):=fun ds=>open Classical in if h:∃a,A.ds a=ds then (F (Classical.choose h)).map R else none
theorem abO {α β:Type} (A:lO α) (F:α->Option β) (R:β->Nat×Nat×Nat×Nat×Nat×List D) (a:α):bL A F R (A.ds a)=(F a).map R:=by
 have h:∃b,A.ds b=A.ds a:=⟨a,rfl⟩
 simp only[bL]
 rw[dif_pos h,A.inj _ _ (Classical.choose_spec h)]
theorem XK {α β:Type} {A:lO α} {F:α->Option β} {R:β->Nat×Nat×Nat×Nat×Nat×List D} {ds:List D} {q:Nat×Nat×Nat×Nat×Nat×List D} (h:bL A F R ds=some q):∃a r,ds=A.ds a∧F a=some r∧q=R r:=by
 unfold bL at h
 split at h
 ·rename_i he
  rw[aeM]at h
  obtain⟨r,h1,h2⟩:=h
  exact⟨_,r,(Classical.choose_spec he).symm,h1,h2.symm⟩
 ·cases h
structure FOk (P:Program) (f:FuncId) (p:List D->Option (Nat×Nat×Nat×Nat×Nat×List D)):Prop where
 callable:dx P f
 calls:∀args ty t s S n cs,p args=some (ty,t,s,S,n,cs)->I8 P f args ty t s S n cs
theorem FOk.of {P:Program} {T:Nat->Option Ty} {Γ:Env} (hT:kq P T) (hΓ:bq P Γ) (hm:P.follows .mixedOrders=true) {α β:Type} {A:lO α} {F:α->Option β} {R:β->Nat×Nat×Nat×Nat×Nat×List D} {f:FuncId} {fn:Func} (hf:P.funcs[f]? = some fn) (hok:(match fn.body with|some c=>codeOk c|none=>true)=true)
  (hc:(fn.name == "runtime.NumGoroutine")=false∧fn.body.isNone=false) (hn:∀a,(A.ds a).length<=fn.ntmps) (h:∀a r,F a=some r->xH T Γ FU fn (A.ds a)=some (R r)):FOk P f (bL A F R) where
 callable:=⟨fn,hf,hc⟩
 calls args ty t s S n cs hg:=by
  obtain⟨a,r,rfl,hr,he⟩:=XK hg
  exact KD hT hΓ hm hf hok (hn a) ((h a r hr).trans (by rw[he]))
def FQ {α β γ:Type} (ty t s:Nat) (EN:jf γ) (A:lO α) (F:γ->α->Option (γ×β)) (R:β->D):Nat->Nat->Nat->Nat->List D->List D->Option (D×List D):=fun ty' t' s' o cs args =>
 open Classical in if h:∃p:List D×List D×γ×α,ty'=ty∧t'=t∧s'=s∧cs=p.1++(EN.cells p.2.2.1++p.2.1)∧o=p.1.length∧args=A.ds p.2.2.2 then
  (F (Classical.choose h).2.2.1 (Classical.choose h).2.2.2).map fun r=>(R r.2,(Classical.choose h).1++(EN.cells r.1++(Classical.choose h).2.1)) else none
theorem J5 {α β γ:Type} (ty t s:Nat) (EN:jf γ) (A:lO α) (F:γ->α->Option (γ×β)) (R:β->D) (pre post:List D) (x:γ) (a:α) :
  FQ ty t s EN A F R ty t s pre.length (pre++(EN.cells x++post)) (A.ds a)=(F x a).map fun r=>(R r.2,pre++(EN.cells r.1++post)):=by
 have h:∃p:List D×List D×γ×α,ty=ty∧t=t∧s=s∧pre++(EN.cells x++post)=p.1++(EN.cells p.2.2.1++p.2.1)∧pre.length=p.1.length∧A.ds a=A.ds p.2.2.2:=⟨(pre,post,x,a),rfl,rfl,rfl,rfl,rfl,rfl⟩
 obtain⟨_,_,_,h1,h2,h3⟩:=Classical.choose_spec h
 obtain⟨e1,e2⟩:=agH h1 h2
 obtain⟨e3,e4⟩:=agH e2 (by rw[EN.len,EN.len])
 unfold FQ
 rw[dif_pos h,<- e1,<- e4,<- EN.inj _ _ e3,<- A.inj _ _ h3]
theorem Vk {α β γ:Type} {ty t s:Nat} {EN:jf γ} {A:lO α} {F:γ->α->Option (γ×β)} {R:β->D} {ty' t' s' o:Nat} {cs args:List D} {d:D} {cs':List D} (h:FQ ty t s EN A F R ty' t' s' o cs args=some (d,cs')) :
  ty'=ty∧t'=t∧s'=s∧∃pre post x a r,cs=pre++(EN.cells x++post)∧o=pre.length∧args=A.ds a∧F x a=some r∧d=R r.2∧cs'=pre++(EN.cells r.1++post):=by
 unfold FQ at h
 split at h
 ·rename_i he
  obtain⟨h1,h2,h3,h4,h5,h6⟩:=Classical.choose_spec he
  rw[aeM]at h
  obtain⟨r,k1,k2⟩:=h
  simp only[Prod.mk.injEq]at k2
  exact⟨h1,h2,h3,_,_,_,_,r,h4,h5,h6,k1,k2.1.symm,k2.2.symm⟩
 ·cases h
structure Y9 (P:Program) (f:FuncId) (p:Nat->Nat->Nat->Nat->List D->List D->Option (D×List D)):Prop where
 callable:dx P f
 calls:∀ty t s o cs args d cs',p ty t s o cs args=some (d,cs')->I9 P f ty t s o cs args d cs'
theorem Y9.of {P:Program} {T:Nat->Option Ty} {Γ:Env} (hT:kq P T) (hΓ:bq P Γ) (hm:P.follows .mixedOrders=true) {α β γ:Type} {ty t s:Nat} {EN:jf γ} {A:lO α} {F:γ->α->Option (γ×β)} {R:β->D} {f:FuncId} {fn:Func} (hf:P.funcs[f]? = some fn) (hok:(match fn.body with|some c=>codeOk c|none=>true)=true)
  (hc:(fn.name == "runtime.NumGoroutine")=false∧fn.body.isNone=false) (hn:∀a,(A.ds a).length+1<=fn.ntmps) (h:∀pre post x a x' r,F x a=some (x',r)->sV T Γ FU fn ty t s pre.length (pre++(EN.cells x++post)) (A.ds a)=some (R r,pre++(EN.cells x'++post))):Y9 P f (FQ ty t s EN A F R) where
 callable:=⟨fn,hf,hc⟩
 calls ty' t' s' o cs args d cs' hg:=by
  obtain⟨rfl,rfl,rfl,pre,post,x,a,r,rfl,rfl,rfl,hr,rfl,rfl⟩:=Vk hg
  exact KE hT hΓ hm hf hok (hn a) (h pre post x a r.1 r.2 hr)
theorem OD {α:Type} {x:Bool×α} {q:α} (h:OC x=some q):x=(false,q):=by
 obtain⟨b,y⟩:=x
 cases b
 ·cases h;rfl
 ·cases h
theorem O5 {α:Type} {x:Bool×α} {q:α} (h:O4 x=some q):x=(true,q):=by
 obtain⟨b,y⟩:=x
 cases b
 ·cases h
 ·cases h;rfl
def acz {α:Type} (E EN:jf α) (hs:EN.size=E.size) (hd:∀x y,E.cells x≠EN.cells y):jf (Bool×α):=⟨fun p=>match p.1 with|true=>E.cells p.2|false=>EN.cells p.2,E.size,fun p=>by
  obtain⟨b,x⟩:=p
  cases b
  ·exact (EN.len x).trans hs
  ·exact E.len x,E.pos,fun p q h=>by
  obtain⟨b,x⟩:=p
  obtain⟨c,y⟩:=q
  cases b<;>cases c
  ·exact congrArg (Prod.mk false) (EN.inj x y h)
  ·exact absurd h.symm (hd _ _)
  ·exact absurd h (hd _ _)
  ·exact congrArg (Prod.mk true) (E.inj x y h)⟩
theorem Hm {α:Type} {EN:jf α} {EF:jf (Bool×α)} (hF:∀x,EF.cells (false,x)=EN.cells x):∀l:List α,ae EN l=ae EF (Hl l)
 | []=>rfl
 | x::l=>by
  have ih:=Hm hF l
  rw[a7,ih,<- hF x]
  rfl
theorem Hn {α:Type} {l:List α} : (Hl l).length=l.length:=afi ..
theorem Dw {γ:Type} {E:jf γ} {C:List γ} {i:Int} {x:γ} (h:P.idx C i=some x) (y:γ):ae E (C.set i.toNat y)=ae E (C.take i.toNat)++(E.cells y++ae E (C.drop (i.toNat+1)))∧(ae E (C.take i.toNat)).length=i.toNat*E.size:=by
 have hb:=pG h
 refine⟨?_,by rw[bQ,ae7];congr 1;omega⟩
 rw[Ri E C i.toNat x (JL h) y,<- ew,af1]
 congr 2
 have:i.toNat*E.size+E.size=(i.toNat+1)*E.size:=by rw[afJ]
 rw[this,oP]
theorem W8 {γ:Type} {E:jf γ} {C:List γ} {i:Int} {x:γ} (h:P.idx C i=some x):ae E C=ae E (C.take i.toNat)++(E.cells x++ae E (C.drop (i.toNat+1))):=by
 have h1:=(Dw (E:=E) h x).1
 have h2:C.set i.toNat x=C:=by
  obtain⟨hlt,he⟩:=afh.1 (JL h)
  rw[<- he,List.set_getElem_self]
 rwa [h2]at h1
theorem Tr {α β γ:Type} {ty t s:Nat} {EN:jf γ} {EF:jf (Bool×γ)} (hF:∀x,EF.cells (false,x)=EN.cells x) {A:lO α} {F:γ->α->Option (γ×β)} {R:β->D} {C:List (Bool×γ)} {i:Int} {q:γ} (h:P.idx C i=some (false,q)) (a:α) :
  FQ ty t s EN A F R ty t s (i.toNat*EF.size) (ae EF C) (A.ds a)=(F q a).map fun r=>(R r.2,ae EF (C.set i.toNat (false,r.1))):=by
 have h1:=W8 (E:=EF) h
 have h2:=(Dw (E:=EF) h (false,q)).2
 rw[h1,<- h2,hF,J5]
 congr 1
 funext r
 rw[(Dw (E:=EF) h (false,r.1)).1,hF]
theorem YZ {K:Nat} (pre cs post:List D) (hK:cs.length=K):sW K pre.length (pre++(cs++post))=pre++(cs.map unN++post):=by
 apply agP
 intro j
 rw[wq]
 by_cases h1:j<pre.length
 ·rw[afs (l₁:=pre) h1,afs (l₁:=pre) h1,ae1 h1]
  simp only[Option.map_some]
  rw[if_neg (by omega)]
 ·rw[aft (l₁:=pre) (by omega),aft (l₁:=pre) (by omega)]
  by_cases h2:j-pre.length<cs.length
  ·rw[afs (l₁:=cs) h2,afs (l₁:=cs.map unN) (by rw[afi];exact h2),aeL,ae1 h2]
   simp only[Option.map_some]
   rw[if_pos (by omega)]
  ·rw[aft (l₁:=cs) (by omega),aft (l₁:=cs.map unN) (by rw[afi];omega),afi]
   cases post[j-pre.length-cs.length]? with
   | none=>rfl
   | some d =>
    simp only[Option.map_some]
    rw[if_neg (by omega)]
theorem acD {γ:Type} {s:Nat} {E EN:jf γ} {EF:jf (Bool×γ)} (hF:∀x,EF.cells (false,x)=EN.cells x) (hT:∀x,EF.cells (true,x)=E.cells x) (hu:∀x,(EN.cells x).map unN=E.cells x) (ho:∀x,(EN.cells x).all (FR s)=true) {C:List (Bool×γ)} {i:Int} {x:Bool×γ} (h:P.idx C i=some x) (q:γ) :
  (((ae EF (C.set i.toNat (false,q))).drop (i.toNat*EF.size)).take EF.size).all (FR s)=true∧sW EF.size (i.toNat*EF.size) (ae EF (C.set i.toNat (false,q)))=ae EF (C.set i.toNat (true,q)):=by
 obtain⟨h1,h2⟩:=Dw (E:=EF) h (false,q)
 have h3:=EF.len (false,q)
 have hb:=pG h
 refine⟨?_,?_⟩
 ·rw[h1,<- h2,List.drop_left' rfl,af5 (by omega),af6 (by omega),hF]
  exact ho q
 ·rw[(Dw (E:=EF) h (true,q)).1,h1,<- h2,YZ _ _ _ h3,hF,hu,hT]
section
variable {pre l:List D} {k m:Nat}
theorem YU:(pre++l).take (pre.length+k)=pre++l.take k:=List.take_length_add_append ..
theorem Ue:(pre++l).take pre.length=pre:=List.take_left' rfl
theorem P5:(pre++l).drop (pre.length+k)=l.drop k:=List.drop_length_add_append ..
theorem SI:(pre++l).drop pre.length=l:=List.drop_left' rfl
theorem SJ:(pre++l).drop (pre.length+k+m)=l.drop (k+m):=by rw[ae9,P5]
theorem Qz:(pre.length+k<=(pre++l).length)=(k<=l.length):=by rw[afP];exact propext ⟨fun h=>by omega,fun h=>by omega⟩
theorem Tj:(pre.length+k+m<=(pre++l).length)=(k+m<=l.length):=by rw[ae9,Qz]
end
theorem Oc {ty t s nv:Nat} {cs:List D} : gO ty t s nv cs=⟨0,ty,[.nr t s nv cs],false,true,true⟩:=ahv
theorem vnp:type_of% (ai @Oc<|ai @YU<|ai @Ue<|ai @P5<|ai @SI<|ai @SJ<|ai @Qz<|ai @Tj<|@af1):=⟨@Oc,@YU,@Ue,@P5,@SI,@SJ,@Qz,@Tj,@af1⟩
theorem Nr {τ:Ty} {h:Nat->Option Row} {x v o:Nat} : n8 τ h x v o none=none:=ahv
theorem S6 {d:D} {l:List D} : (d::l).head? = some d:=ahv
theorem TK {r:Row} {f:Row->Option Row} : (some r).bind f=f r:=ahv
theorem TJ {f:Row->Option Row} : (none:Option Row).bind f=none:=ahv
theorem LD {x o:Nat} : clP x o none=none:=ahv
theorem K5 {q:Option (List D×List Nat)} : caC none q=none:=ahv
theorem Gp {Γ:Env} {h:Nat->Option Row} {e g:Nat} {dst:Option Nat} : Wp Γ h e dst g none=none:=ahv
theorem Y0 {o:Nat} {cs:List D} : sW 0 o cs=cs:=I7 o cs
theorem aar {x o n:Nat} (h:n<1000000):(NK x o=n)=False:=by
 have:=gq x o
 have:=cO
 exact propext ⟨fun e=>by omega,fun e=>e.elim⟩
theorem VZ {x o n:Nat} (h:n<1000000):(n=NK x o)=False:=by
 have:=gq x o
 have:=cO
 exact propext ⟨fun e=>by omega,fun e=>e.elim⟩
theorem A6 {g:Nat} : aY.lends g=false:=ahv
theorem HV {g:Nat} {l:Option (D×Row)} {aeJ:List D} : aY.sem g l aeJ=none:=ahv
theorem CD {Γ:Env} {h:Nat->Option Row} {e g:Nat} {dst:Option Nat} {args:List D} {b:Bool} (hb:b=false) (hs:∀aeJ,Γ.sem g none aeJ=none):CC b Γ h e dst g args=none:=by
 subst hb
 rw[zK]
 simp only[Wp]
 cases bk h args with
 | none=>rfl
 | some q =>
  obtain⟨aeJ,fr⟩:=q
  simp only[hs]
  rfl
theorem vnl:type_of% (ai @A6<|ai @HV<|@CD):=⟨@A6,@HV,@CD⟩
theorem vn:type_of% (ai @IB<|ai @Hn<|ai @IC<|ai @aar<|ai @VZ<|ai @UW.eq_1<|ai @LD<|ai @K5<|ai @Gp<|ai @Y0<|ai @TK<|ai @TJ<|ai @Nr<|ai @S6<|ai @vv<|ai @GK<|ai @CY<|ai @GL<|ai @LR<|@yg):=⟨@IB,@Hn,@IC,@aar,@VZ,@UW.eq_1,@LD,@K5,@Gp,@Y0,@TK,@TJ,@Nr,@S6,@vv,@GK,@CY,@GL,@LR,@yg⟩
end Go.Proofs.Ytchndpjlijbplaa.Am
namespace Go.Proofs.Ytchndpjlijbplaa.Am
open Go.RowKit Go.Proofs.Ytchndpjlijbplaa.P Go.Shelf Go.Lib
section
variable {P:Program}
theorem sS (w:World) (dT sT ty elem:TypeId) (K b o dLen dCap:Nat) (a:Addr) (sLen sCap:Nat) (cs:List Value)
  (hu:P.underlying dT=some (.slice elem)) (hs:(P.info? elem).map (·.size)=some K) (hn:cs.length=Nat.min sLen dLen*K)
  (hsrc:∀j v,cs[j]? = some v->w.cell? (a.add j)=some v) (hc:∀j,j<cs.length->(w.cell? ⟨b,o+j,none⟩).isSome=true) (hf:∀j,j<cs.length->w.frozen? ⟨b,o+j,none⟩=false) (h1:∀v∈cs,v.oneCell'=true) :
  (Builtin.copy_ #[dT,sT] ty #[.slice (some ⟨b,o,none⟩) dLen dCap,.slice (some a) sLen sCap]).run P w=.ok (goInt (Nat.min sLen dLen)) (w.setCells b o cs):=by
 have hl:=run_loadCells_list (P:=P) w a cs hsrc
 have hst:=run_storeCells_cells (P:=P) b o cs 0 w (by simpa using hc) (by simpa using hf) h1
 cases hq:P.info? elem with
 | none=>simp[hq]at hs
 | some i =>
  have hi:i.size=K:=by simpa [hq] using hs
  simp[Builtin.copy_,run_underlying hu,Builtin.lenOf,Builtin.firstCells,sizeOf,typeInfo,hq,hi,<- hn,hl,hst]
theorem As (w:World) {ops:Array Oper} {rest:List Oper} {o:Oper} {a:Act} {Q:Exit->Act->World->Prop} (hgd:o.guard=none) (s:Operand) (t:TypeId)
  (ho:o.op=.call { callee := .builtin .clear,args:=#[s],argTypes:=#[t] }) (v:Value) (hd:a.eval s=v) {v':Value} {w':World}
  (hr:(Builtin.clear_ #[t] o.type #[v]).run P w=.ok v' w') (h:wpList P ops Q rest (a.put o.dst v') w'):wpList P ops Q (o::rest) a w :=
 wpList_plain hgd fun _ hK=>by
  unfold Oper.wp execOp
  simp only[ho,resolve,invoke,builtin,afl,Sem.run_pure,Result.andThen_ok,List.map_toArray,aeU,afC,hd,hr]
  exact hK _ _ h
theorem OV (w:World) (t e ty:TypeId) (z:Value) (ht:P.underlying t=some (.slice e)) (hv:∀w,(zeroValue e).run P w=.ok z w) (b o n c:Nat) (hn:0<n) (cs:List Value) (hcs:(Builtin.zeroCells z.cells n).toList=cs) (h1:∀v∈cs,v.oneCell'=true)
  (hc:∀j,j<cs.length->(w.cell? ⟨b,o+j,none⟩).isSome=true) (hf:∀j,j<cs.length->w.frozen? ⟨b,o+j,none⟩=false) :
  (Builtin.clear_ #[t] ty #[.slice (some ⟨b,o,none⟩) n c]).run P w=.ok (.tuple #[]) (w.setCells b o cs):=by
 have hst:=run_storeCells_cells (P:=P) b o cs 0 w (by simpa using hc) (by simpa using hf) h1
 simp only[Nat.add_zero]at hst
 obtain⟨m,rfl⟩:∃m,n=m+1:=⟨n-1,by omega⟩
 simp[Builtin.clear_,run_underlying ht,hv,hcs,hst]
end
theorem JO:(Try.prog.info? 74).map (fun i=>(i.zero,i.size,i.bytes))=some (some (Value.agg #[.int .i64 0,.int .i64 0,.slice none 0 0,.int .i64 0,.slice none 0 0]),5,72):=by kernel_rfl
theorem Yc:(Try.prog.info? 74).map (·.size)=some 5:=by kernel_rfl
set_option maxHeartbeats 4000000 in
set_option maxRecDepth 100000 in
theorem LS (a:Option Addr) (n c i:Nat) (w:World) (hi:i<=n) (hn:n<=c) (hc:c<=9223372036854775807) (ha:a=none->c=0) :
  Calls Try.prog 70 #[.slice a n c,.int .i64 i,.int .i64 i] w fun e w'=>e=.returned (.slice a n c)∧w'=w:=by
 go_enter Try.func70,Try.ntmps70
 cases a with
 | none =>
  have:=ha rfl
  subst this
  obtain rfl:n=0:=by omega
  obtain rfl:i=0:=by omega
  go_wp2
  all_goals (go_ret;exact⟨rfl,rfl⟩)
 | some a =>
  obtain⟨ab,ao,asp⟩:=a
  go_wp2
  all_goals (go_ret;exact⟨rfl,rfl⟩)
def lI:Value := .agg #[.int .i64 0,.int .i64 0,.slice none 0 0,.int .i64 0,.slice none 0 0]
theorem Bx:lI.cells = #[.int .i64 0,.int .i64 0,.slice none 0 0,.int .i64 0,.slice none 0 0]:=rfl
theorem nd (n:Nat):(Builtin.zeroCells lI.cells n).toList.length=n*5:=by
 simp[Builtin.zeroCells,Bx]
theorem VM (n:Nat):∀v∈(Builtin.zeroCells lI.cells n).toList,v.oneCell'=true:=by
 intro v hv
 simp only[Builtin.zeroCells,Bx,afG,aeN]at hv
 obtain⟨i,_,rfl⟩:=hv
 have h5:i % 5<5:=Nat.mod_lt _ (by decide)
 simp only[afZ,List.length_cons,List.length_nil,afB,Nat.reduceAdd]
 generalize i % 5=k at *
 match k,h5 with
 | 0,_=>rfl
 | 1,_=>rfl
 | 2,_=>rfl
 | 3,_=>rfl
 | 4,_=>rfl
set_option maxHeartbeats 4000000 in
set_option maxRecDepth 100000 in
theorem WN (b off n c i j:Nat) (cs:List Value) (w:World) (hl:cs.length=n*5) (hcs:∀k v,cs[k]? = some v->w.cell? ⟨b,off+k,none⟩=some v) (hfz:∀k,w.frozen? ⟨b,k,none⟩=false) (h1:∀v∈cs,v.oneCell'=true)
  (hnc:n<=c) (hc:c<=9223372036854775807) (hij:i<j) (hj:j<=n) :
  Calls Try.prog 70 #[.slice (some ⟨b,off,none⟩) n c,.int .i64 i,.int .i64 j] w fun e w'=>e=.returned (.slice (some ⟨b,off,none⟩) (i+(n-j)) c) ∧
   w'=(w.drew.setCells b (off+i*5) (cs.drop (j*5))).setCells b (off+(i+(n-j))*5) (Builtin.zeroCells lI.cells (n-(i+(n-j)))).toList:=by
 have t0:=Try.underlying67
 obtain⟨i0,hi0,hz0,hz1,hz2⟩:=info_parts JO
 have v0:∀w,(zeroValue 74).run Try.prog w=.ok lI w:=fun w=>by simp[zeroValue,typeInfo,hi0,hz0,lI]
 obtain⟨A,hA,hsrc⟩:∃A:Addr,(if c=j then some (⟨b,off,none⟩:Addr) else some ⟨b,off+j*5,none⟩)=some A∧Hid (∀t u,(cs.drop (j*5))[t]? = some u->w.drew.cell? (A.add t)=some u):=by
  by_cases h:c=j
  ·refine⟨⟨b,off,none⟩,by simp[h],fun t u hu =>?_⟩
   have h0:(cs.drop (j*5)).length=0:=by rw[ae8,hl];omega
   rw[List.length_eq_zero_iff.1 h0]at hu
   simp at hu
  ·refine⟨⟨b,off+j*5,none⟩,by simp[h],fun t u hu =>?_⟩
   rw[ae5]at hu
   rw[ahu,ae9]
   exact hcs _ _ hu
 have hdl:(cs.drop (j*5)).length=(n-j)*5:=by rw[ae8,hl,Nat.sub_mul]
 have hsp:∀k,k<n*5->(w.cell? ⟨b,off+k,none⟩).isSome=true:=fun k hk=>by
  rw[hcs k _ (ae1 (by omega))];rfl
 have s1:Hid ((cs.drop (j*5)).length=(n-j)*5):=hdl
 have s2:Hid (∀u∈cs.drop (j*5),u.oneCell'=true):=fun u hu=>h1 u (afw hu)
 have s3:Hid (∀t,t<(cs.drop (j*5)).length->(w.drew.cell? ⟨b,off+i*5+t,none⟩).isSome=true∧w.drew.frozen? ⟨b,off+i*5+t,none⟩=false):=by
  intro t ht
  rw[hdl]at ht
  rw[ae9]
  exact⟨hsp _ (by omega),hfz _⟩
 obtain⟨W1,hW1⟩:∃W1,W1=w.drew.setCells b (off+i*5) (cs.drop (j*5)):=⟨_,rfl⟩
 have hcl:∀ty,(Builtin.clear_ #[67] ty #[.slice (some ⟨b,off+(i+(n-j))*5,none⟩) (n-(i+(n-j))) (c-(i+(n-j)))]).run Try.prog W1=.ok (.tuple #[]) (W1.setCells b (off+(i+(n-j))*5) (Builtin.zeroCells lI.cells (n-(i+(n-j)))).toList) :=
  fun ty=>OV W1 _ _ ty lI t0 v0 b _ _ _ (by omega) _ rfl (VM _) (fun k hk=>by
   rw[nd]at hk
   rw[hW1,ae9]
   exact isSome_setCells b _ _ _ (fun t ht=>(s3.out t ht).1) _ (hsp _ (by omega))) (fun k hk=>by rw[hW1,World.frozen?_setCells];exact hfz _)
 have hW:Hid (W1=w.drew.setCells b (off+i*5) (cs.drop (j*5))):=hW1
 rw[<- hW1]
 have hic:i<=c:=by omega
 have hjc:j<=c:=by omega
 have hne:¬(i=j):=by omega
 have mixed:Try.prog.follows .mixedOrders=true:=by kernel_rfl
 generalize (Builtin.zeroCells lI.cells (n-(i+(n-j)))).toList=Z at hcl ⊢
 clear hW1 hcs hdl hsp
 go_enter Try.func70,Try.ntmps70
 go_wp2_with fail
 go_region_law_o (refine step_append_room rfl (.tmp 22) (.tmp 25) 67 rfl 74 i0 5 t0 hi0 hz1 b off i c (by simp[Act.eval,Act.put]) A (n-j) (c-j) (cs.drop (j*5)) (by simp[Act.eval,Act.put]) s1.out hsrc.out s2.out (by omega) s3.out ?_;rw[<- hW.out])
 go_wp2_with (at_builtin;refine As _ rfl _ 67 rfl _ rfl (hcl _) ?_)
 go_ret
 exact⟨rfl,rfl⟩
set_option maxHeartbeats 4000000 in
set_option maxRecDepth 100000 in
theorem UU (b off n c i vb voff m vc:Nat) (cs vs:List Value) (w:World) (hi:i<n) (hm:0<m) (hroom:n+m<=c) (hc63:c<=9223372036854775807) (hvb:vb≠b)
  (hcl:cs.length=n*5) (hvl:vs.length=m*5)
  (hcs:∀j v,cs[j]? = some v->w.cell? ⟨b,off+j,none⟩=some v) (hsp:∀j,j<(n+m)*5->(w.cell? ⟨b,off+j,none⟩).isSome=true) (hfz:∀j,w.frozen? ⟨b,j,none⟩=false)
  (hvs:∀j v,vs[j]? = some v->w.cell? ⟨vb,voff+j,none⟩=some v) (h1c:∀v∈cs,v.oneCell'=true) (h1v:∀v∈vs,v.oneCell'=true)
  (tA tB:TypeId) (kA kB:Nat) (hsa:w.shape? vb=some (tA,kA)) (hsb:w.shape? b=some (tB,kB)) (hkB:kB≠0) (hfa:w.frozen? ⟨vb,voff,none⟩=false) (hfe:w.frozen? ⟨vb,kA,none⟩=false) :
  Calls Try.prog 99 #[.slice (some ⟨b,off,none⟩) n c,.int .i64 i,.slice (some ⟨vb,voff,none⟩) m vc] w fun e w' =>
   e=.returned (.slice (some ⟨b,off,none⟩) (n+m) c)∧w'=(w.drew.setCells b (off+(i+m)*5) (cs.drop (i*5))).setCells b (off+i*5) vs:=by
 have t0:=Try.underlying67
 have hz1:¬((m:Int)=0):=by omega
 have hz2:¬((i:Int)=(n:Int)):=by omega
 have hsz:=Yc
 have hov:∀lb cb,(callFunc 114 #[.slice (some ⟨vb,voff,none⟩) m vc,.slice (some ⟨b,off+(i+m)*5,none⟩) lb cb]).run Try.prog w=.ok (.value (.bool false)) w:=fun lb cb=>by
  rw[run_callFunc_extern Try.func114 (by kernel_rfl) (by kernel_rfl) (by kernel_rfl) (e:=Extern.SlicesOverlaps.overlaps #[67,67] #[4]) (by kernel_rfl),
   Lib.run_overlaps_apart w 67 4 74 t0 5 Try.sizeOf74 ⟨vb,voff,none⟩ ⟨b,off+(i+m)*5,none⟩ m vc lb cb hvb tA tB kA kB hsa hsb hkB hfa hfe]
  rfl
 have hdl:(cs.drop (i*5)).length=(n-i)*5:=by rw[ae8,hcl,Nat.sub_mul]
 have mixed:Try.prog.follows .mixedOrders=true:=by kernel_rfl
 have hw1:IntKind.i64.wrap ((i:Int)+(m:Int))=(i:Int)+(m:Int):=by rw[IntKind.wrap_i64];omega
 have hb1:(0:Int)<=(i:Int)+(m:Int):=by omega
 have hin:i<=n:=by omega
 have htn:((i:Int)+(m:Int)).toNat=i+m:=by omega
 have hb2:¬(c=i+m):=by omega
 have hb3:(i:Int)<=(n:Int)+(m:Int):=by omega
 have hb4:¬(c=i):=by omega
 have hcp1:∀ty dc sc,(Builtin.copy_ #[67,67] ty #[.slice (some ⟨b,off+(i+m)*5,none⟩) (n+m-(i+m)) dc,.slice (some ⟨b,off+i*5,none⟩) (n+m-i) sc]).run Try.prog w.drew=.ok (goInt (Nat.min (n+m-i) (n+m-(i+m)))) (w.drew.setCells b (off+(i+m)*5) (cs.drop (i*5))):=fun ty dc sc =>
  sS w.drew _ _ ty 74 5 b (off+(i+m)*5) (n+m-(i+m)) dc ⟨b,off+i*5,none⟩ (n+m-i) sc (cs.drop (i*5)) t0 hsz (by rw[hdl];congr 1;simp only[Nat.min_def];split<;>omega)
   (fun j v hj=>by rw[ahu,ae9];exact hcs (i*5+j) v (by rwa [ae5]at hj))
   (fun j hj=>by rw[ae9];exact hsp _ (by omega)) (fun j hj=>hfz _) (fun v hv=>h1c v (afw hv))
 obtain⟨W1,hW1⟩:∃W1,W1=w.drew.setCells b (off+(i+m)*5) (cs.drop (i*5)):=⟨_,rfl⟩
 have hsp1:∀k,k<(n+m)*5->(W1.cell? ⟨b,off+k,none⟩).isSome=true:=fun k hk=>by
  rw[hW1]
  exact isSome_setCells b _ _ _ (fun j hj=>by rw[ae9];exact hsp _ (by omega)) _ (hsp k hk)
 have hcp2:∀(W:World),(∀x,W.cell? x=W1.cell? x)->(∀x,W.frozen? x=W1.frozen? x)->∀ty dc,(Builtin.copy_ #[67,67] ty #[.slice (some ⟨b,off+i*5,none⟩) (n+m-i) dc,.slice (some ⟨vb,voff,none⟩) m vc]).run Try.prog W=.ok (goInt (Nat.min m (n+m-i))) (W.setCells b (off+i*5) vs):=fun W hWc hWf ty dc =>
  sS W _ _ ty 74 5 b (off+i*5) (n+m-i) dc ⟨vb,voff,none⟩ m vc vs t0 hsz (by rw[hvl];congr 1;simp only[Nat.min_def];split<;>omega)
   (fun j v hj=>by
    rw[ahu,hWc,hW1,World.cell?_setCells_out b _ _ _ _ (fun h _=>absurd h hvb)]
    exact hvs j v hj)
   (fun j hj=>by rw[hWc,ae9];exact hsp1 _ (by omega)) (fun j hj=>by rw[hWf,hW1,World.frozen?_setCells];exact hfz _) h1v
 rw[<- hW1]at hcp1
 go_enter Try.func99,Try.ntmps99
 go_wp2_with (simp only[hov])
 go_region_law_o (refine step_copy_runI rfl _ _ 67 67 rfl _ _ (by simp[Act.eval,Act.put]) (by simp[Act.eval,Act.put]) (hcp1 _ _ _) ?_)
 go_wp2_with (at_builtin;refine wpList_copy_runI _ rfl _ _ 67 67 rfl _ _ rfl rfl (hcp2 _ (fun _=>rfl) (fun _=>rfl) _ _) ?_)
 go_ret
 first|exact⟨rfl,rfl⟩|exact⟨rfl,by rw[hW1]⟩
set_option maxHeartbeats 4000000 in
set_option maxRecDepth 100000 in
theorem JQ (b off n c vb voff m vc:Nat) (vs:List Value) (w:World) (hm:0<m) (hroom:n+m<=c) (hc63:c<=9223372036854775807)
  (hvl:vs.length=m*5) (hsp:∀j,j<m*5->(w.cell? ⟨b,off+n*5+j,none⟩).isSome=true) (hfz:∀j,w.frozen? ⟨b,j,none⟩=false)
  (hvs:∀j v,vs[j]? = some v->w.cell? ⟨vb,voff+j,none⟩=some v) (h1v:∀v∈vs,v.oneCell'=true) :
  Calls Try.prog 99 #[.slice (some ⟨b,off,none⟩) n c,.int .i64 n,.slice (some ⟨vb,voff,none⟩) m vc] w fun e w' =>
   e=.returned (.slice (some ⟨b,off,none⟩) (n+m) c)∧w'=w.setCells b (off+n*5) vs:=by
 have t0:=Try.underlying67
 have mixed:Try.prog.follows .mixedOrders=true:=by kernel_rfl
 obtain⟨i0,hi0,hz0,hzs,hzb⟩:=info_parts JO
 have hz1:¬((m:Int)=0):=by omega
 have hsrc:Src Try.prog i0.size 67 (.slice (some ⟨vb,voff,none⟩) m vc) m vs w:=Src.ofSlice w t0 ⟨vb,voff,none⟩ m vc vs (by rw[hzs];omega) (fun j u hj=>by rw[ahu];exact hvs j u hj) h1v
 have e5:off+n*i0.size=off+n*5:=by rw[hzs]
 have hsp':Hid (∀j,j<vs.length->(w.cell? ⟨b,off+n*i0.size+j,none⟩).isSome=true):=fun j hj=>by rw[e5];exact hsp j (by omega)
 rw[<- e5]
 have hin:n<=c:=by omega
 go_enter Try.func99,Try.ntmps99
 go_wp2_with (at_builtin;refine wpList_append_room_src _ rfl _ _ 67 67 rfl 74 i0 t0 hi0 b off n c rfl _ rfl m vs hsrc hroom hsp'.out (fun _ _=>hfz _) ?_)
 go_ret
 exact⟨rfl,by rw[hzs]⟩
set_option maxHeartbeats 4000000 in
set_option maxRecDepth 100000 in
theorem yA (base:Option Addr) (n c vb voff m vc:Nat) (cs vs:List Value) (w:World) (hm:0<m) (hnc:n<=c) (hc63:c<=9223372036854775807) (hroom:c<n+m) (hbig:(n+m)*72<=140737488355328)
  (hcl:cs.length=n*5) (hvl:vs.length=m*5) (hnil:base=none->n=0)
  (hcs:∀a,base=some a->∀j v,cs[j]? = some v->w.cell? (a.add j)=some v)
  (hvs:∀j v,vs[j]? = some v->w.cell? ⟨vb,voff+j,none⟩=some v) (h1v:∀v∈vs,v.oneCell'=true) :
  Calls Try.prog 99 #[.slice base n c,.int .i64 n,.slice (some ⟨vb,voff,none⟩) m vc] w fun e w' =>
   e=.returned (.slice (some ⟨w.heap.size,0,none⟩) (n+m) (grownCap w (n+m) c 74)) ∧
   w'=w.drew.alloc (.cells ((cs++vs).toArray++Builtin.zeroCells lI.cells (grownCap w (n+m) c 74-(n+m))) 74):=by
 have t0:=Try.underlying67
 have mixed:Try.prog.follows .mixedOrders=true:=by kernel_rfl
 obtain⟨i0,hi0,hz0,hzs,hzb⟩:=info_parts JO
 have hz1:¬((m:Int)=0):=by omega
 have hsrc:Src Try.prog i0.size 67 (.slice (some ⟨vb,voff,none⟩) m vc) m vs w:=by
  rw[hzs]
  exact Src.ofSlice w t0 ⟨vb,voff,none⟩ m vc vs (by omega) (fun j u hj=>by rw[ahu];exact hvs j u hj) h1v
 have hold:(Builtin.firstCells i0.size n (.slice base n c)).run Try.prog w.drew=.ok cs.toArray w.drew:=by
  rw[hzs]
  cases base with
  | none =>
   have h0:=hnil rfl
   subst h0
   obtain rfl:cs=[]:=List.length_eq_zero_iff.1 (by omega)
   exact run_firstCells_none w.drew 5 0 0 c
  | some a=>exact run_firstCells_some w.drew 5 n a n c cs (by omega) (fun j v hj=>hcs a rfl j v hj)
 have hrun:∀ty,(Builtin.append_ #[67,67] ty #[.slice base n c,.slice (some ⟨vb,voff,none⟩) m vc]).run Try.prog w=_:=fun ty =>
  run_append_grow_src w 67 67 ty 74 i0 _ t0 hi0 hz0 base n c cs hold _ m vs hsrc hroom (by omega) (by rw[hzb];exact growslice_fits hroom hbig)
 generalize hR:w.drew.alloc (.cells ((cs++vs).toArray++Builtin.zeroCells lI.cells (grownCap w (n+m) c 74-(n+m))) 74)=R
 have hrun':∀ty,(Builtin.append_ #[67,67] ty #[.slice base n c,.slice (some ⟨vb,voff,none⟩) m vc]).run Try.prog w=.ok (.slice (some ⟨w.heap.size,0,none⟩) (n+m) (grownCap w (n+m) c 74)) R:=fun ty=>by rw[hrun ty,<- hR];rfl
 clear hrun hold hR
 go_enter Try.func99,Try.ntmps99
 cases base with
 | none =>
  have h0:=hnil rfl
  subst h0
  go_wp2_with (at_builtin;refine Lib.wpList_append_run _ rfl _ _ _ _ rfl _ _ rfl rfl _ _ (hrun' _) ?_)
  go_ret
  exact⟨rfl,rfl⟩
 | some a =>
  obtain⟨ab,ao,asp⟩:=a
  go_wp2_with (at_builtin;refine Lib.wpList_append_run _ rfl _ _ _ _ rfl _ _ rfl rfl _ _ (hrun' _) ?_)
  all_goals (go_ret;exact⟨rfl,rfl⟩)
set_option maxHeartbeats 4000000 in
set_option maxRecDepth 100000 in
theorem Xu (b off n c i vb voff m vc:Nat) (cs vs:List Value) (w:World) (hi:i<n) (hm:0<m) (hnc:n<=c) (hroom:c<n+m) (hbig:(n+m)*72<=140737488355328)
  (hcl:cs.length=n*5) (hvl:vs.length=m*5)
  (hcs:∀j v,cs[j]? = some v->w.cell? ⟨b,off+j,none⟩=some v)
  (hvs:∀j v,vs[j]? = some v->w.cell? ⟨vb,voff+j,none⟩=some v) (h1c:∀v∈cs,v.oneCell'=true) (h1v:∀v∈vs,v.oneCell'=true) :
  Calls Try.prog 99 #[.slice (some ⟨b,off,none⟩) n c,.int .i64 i,.slice (some ⟨vb,voff,none⟩) m vc] w fun e w' =>
   e=.returned (.slice (some ⟨w.heap.size,0,none⟩) (n+m) (grownCap w (n+m) c 74)) ∧
   w'=(((w.alloc (.cells ((cs.take (i*5)).toArray++Builtin.zeroCells lI.cells (n+m-i)++Builtin.zeroCells lI.cells (grownCap w (n+m) c 74-(n+m))) 74)).drew.setCells w.heap.size (i*5) vs).drew).setCells w.heap.size ((i+m)*5) (cs.drop (i*5)):=by
 have t0:=Try.underlying67
 have mixed:Try.prog.follows .mixedOrders=true:=by kernel_rfl
 obtain⟨i0,hi0,hz0,hzs,hzb⟩:=info_parts JO
 have hz1:¬((m:Int)=0):=by omega
 have hz2:¬((i:Int)=(n:Int)):=by omega
 have hz3:(c:Int)<(n:Int)+(m:Int):=by omega
 have hsz:=Yc
 have hbw:b<w.heap.size:=block_lt_of_cell (hcs 0 _ (ae1 (by omega)))
 have hvw:vb<w.heap.size:=block_lt_of_cell (hvs 0 _ (ae1 (by omega)))
 have hkk:(n:Int)+(m:Int)-(i:Int)=((n+m-i:Nat):Int):=by omega
 have hik:i+(n+m-i)=n+m:=by omega
 have hold:(Builtin.firstCells i0.size i (.slice (some ⟨b,off,none⟩) i c)).run Try.prog w.drew=.ok (cs.take (i*5)).toArray w.drew:=by
  rw[hzs]
  exact run_firstCells_some w.drew 5 i ⟨b,off,none⟩ i c (cs.take (i*5)) (by rw[ae7];omega) (fun j v hj=>by
   rw[ahu]
   rw[ae4]at hj
   split at hj
   ·exact hcs j v hj
   ·cases hj)
 obtain⟨G,hG⟩:∃G,G=grownCap w (n+m) c 74:=⟨_,rfl⟩
 obtain⟨ROW,hROW⟩:∃ROW:Array Value,ROW=(cs.take (i*5)).toArray++Builtin.zeroCells lI.cells (n+m-i)++Builtin.zeroCells lI.cells (G-(n+m)):=⟨_,rfl⟩
 have hrz:∀ty,(Builtin.append_ #[67,3] ty #[.slice (some ⟨b,off,none⟩) i c,.int .i64 ((n:Int)+(m:Int)-(i:Int))]).run Try.prog w =
   .ok (.slice (some ⟨w.heap.size,0,none⟩) (n+m) G) (w.drew.alloc (.cells ROW 74)):=fun ty=>by
  have h:=Lib.run_append_grow_zeros w 67 3 ty 74 i0 lI .i64 .i64 t0 Try.underlying3 hi0 hz0 (some ⟨b,off,none⟩) i c (cs.take (i*5)) hold (n+m-i) (by omega) (by omega) (by omega) (by omega) (by rw[hzb];omega) (by rw[hzb,hik];exact growslice_fits hroom hbig)
  rw[hik]at h
  rw[hkk,hROW,hG]
  exact h
 rw[<- hG]
 rw[<- hROW]
 have hRl:(n+m)*5<=ROW.size:=by
  have h1:(Builtin.zeroCells lI.cells (n+m-i)).size=(n+m-i)*5:=by have:=nd (n+m-i);simpa using this
  rw[hROW,afY,afY,h1]
  simp only[afZ,ae7]
  omega
 obtain⟨W1,hW1⟩:∃W1,W1=w.drew.alloc (.cells ROW 74):=⟨_,rfl⟩
 rw[<- hW1]at hrz
 have hN:∀j,j<(n+m)*5->(W1.cell? ⟨w.heap.size,j,none⟩).isSome=true:=fun j hj=>by
  rw[hW1,World.cell?_alloc_at (w:=w.drew) ROW _ w.heap.size j rfl,afQ (by omega)];rfl
 have hNf:∀j,W1.frozen? ⟨w.heap.size,j,none⟩=false:=fun j=>by rw[hW1];exact World.frozen?_alloc_at (w:=w.drew) ROW _ w.heap.size j rfl
 have hOb:∀j v,w.cell? ⟨b,j,none⟩=some v->W1.cell? ⟨b,j,none⟩=some v:=fun j v h=>by rw[hW1,World.cell?_alloc_past (w:=w.drew) _ b j hbw];exact h
 have hOv:∀j v,w.cell? ⟨vb,j,none⟩=some v->W1.cell? ⟨vb,j,none⟩=some v:=fun j v h=>by rw[hW1,World.cell?_alloc_past (w:=w.drew) _ vb j hvw];exact h
 have hcpA:∀(W:World),(∀x,W.cell? x=W1.cell? x)->(∀x,W.frozen? x=W1.frozen? x)->∀ty dc,(Builtin.copy_ #[67,67] ty #[.slice (some ⟨w.heap.size,i*5,none⟩) (n+m-i) dc,.slice (some ⟨vb,voff,none⟩) m vc]).run Try.prog W=.ok (goInt (Nat.min m (n+m-i))) (W.setCells w.heap.size (i*5) vs):=fun W hWc hWf ty dc =>
  sS W _ _ ty 74 5 w.heap.size (i*5) (n+m-i) dc ⟨vb,voff,none⟩ m vc vs t0 hsz (by rw[hvl];congr 1;simp only[Nat.min_def];split<;>omega)
   (fun j v hj=>by rw[ahu,hWc];exact hOv _ v (hvs j v hj))
   (fun j hj=>by rw[hWc];exact hN _ (by omega)) (fun j hj=>by rw[hWf];exact hNf _) h1v
 have hGn:n+m<=G:=by rw[hG];exact grownCap_ge w _ _ _
 have hG63:G<=9223372036854775807:=by
  have:=grownCap_le_maxLen w (n+m) c 74 (by unfold maxLen;omega)
  rw[<- hG]at this
  unfold maxLen at this
  omega
 have hGi:¬(G=i):=by omega
 have hGim:¬(G=i+m):=by omega
 have hci:¬(c=i):=by omega
 have hbN:b≠w.heap.size:=by omega
 have hdl:(cs.drop (i*5)).length=(n-i)*5:=by rw[ae8,hcl,Nat.sub_mul]
 have hcpB:∀(W:World),(∀x,W.cell? x=(W1.setCells w.heap.size (i*5) vs).cell? x)->(∀x,W.frozen? x=(W1.setCells w.heap.size (i*5) vs).frozen? x)->∀ty dc sc,(Builtin.copy_ #[67,67] ty #[.slice (some ⟨w.heap.size,(i+m)*5,none⟩) (n+m-(i+m)) dc,.slice (some ⟨b,off+i*5,none⟩) (n-i) sc]).run Try.prog W=.ok (goInt (Nat.min (n-i) (n+m-(i+m)))) (W.setCells w.heap.size ((i+m)*5) (cs.drop (i*5))):=fun W hWc hWf ty dc sc =>
  sS W _ _ ty 74 5 w.heap.size ((i+m)*5) (n+m-(i+m)) dc ⟨b,off+i*5,none⟩ (n-i) sc (cs.drop (i*5)) t0 hsz (by rw[hdl];congr 1;simp only[Nat.min_def];split<;>omega)
   (fun j v hj=>by
    rw[ahu,hWc,World.cell?_setCells_out _ _ _ _ _ (fun h _=>absurd h hbN),ae9]
    exact hOb _ v (hcs (i*5+j) v (by rwa [ae5]at hj)))
   (fun j hj=>by rw[hWc];exact isSome_setCells _ _ _ _ (fun t ht=>hN _ (by omega)) _ (hN _ (by omega)))
   (fun j hj=>by rw[hWf,World.frozen?_setCells];exact hNf _) (fun v hv=>h1c v (afw hv))
 subst hW1
 have hE1:∀x,((w.alloc (.cells ROW 74)).drew).cell? x=(w.drew.alloc (.cells ROW 74)).cell? x:=fun x=>rfl
 have hE2:∀x,((w.alloc (.cells ROW 74)).drew).frozen? x=(w.drew.alloc (.cells ROW 74)).frozen? x:=fun x=>rfl
 have hF1:∀x,(((w.alloc (.cells ROW 74)).drew.setCells w.heap.size (i*5) vs).drew).cell? x=((w.drew.alloc (.cells ROW 74)).setCells w.heap.size (i*5) vs).cell? x:=fun x=>rfl
 have hF2:∀x,(((w.alloc (.cells ROW 74)).drew.setCells w.heap.size (i*5) vs).drew).frozen? x=((w.drew.alloc (.cells ROW 74)).setCells w.heap.size (i*5) vs).frozen? x:=fun x=>rfl
 have hw1:IntKind.i64.wrap ((i:Int)+(m:Int))=(i:Int)+(m:Int):=by rw[IntKind.wrap_i64];omega
 have hb1:(0:Int)<=(i:Int)+(m:Int):=by omega
 have hin:i<=n:=by omega
 have htn:((i:Int)+(m:Int)).toNat=i+m:=by omega
 have hb3:(i:Int)<=(n:Int):=by omega
 clear hkk hik hold hROW hG hRl
 go_enter Try.func99,Try.ntmps99
 go_wp2_with (first
  | (at_builtin;refine Lib.wpList_append_run _ rfl _ _ _ _ rfl _ _ rfl rfl _ _ (hrz _) ?_)
  | (at_builtin;refine wpList_copy_runI _ rfl _ _ 67 67 rfl _ _ rfl rfl (hcpA _ hE1 hE2 _ _) ?_)
  | (at_builtin;refine wpList_copy_runI _ rfl _ _ 67 67 rfl _ _ rfl rfl (hcpB _ (fun _=>rfl) (fun _=>rfl) _ _ _) ?_))
 go_region_law_o (refine step_copy_runI rfl _ _ 67 67 rfl (.slice (some ⟨w.heap.size,(i+m)*5,none⟩) (n+m-(i+m)) (G-(i+m))) (.slice (some ⟨b,off+i*5,none⟩) (n-i) (c-i)) (by simp[Act.eval,Act.put]) (by simp[Act.eval,Act.put]) (hcpB _ hF1 hF2 3 (G-(i+m)) (c-i)) ?_)
 go_wp2
 go_ret
 exact⟨rfl,rfl⟩
end Go.Proofs.Ytchndpjlijbplaa.Am
namespace Go.Proofs.Ytchndpjlijbplaa.Am
open Go.RowKit Go.Proofs.Ytchndpjlijbplaa.P
theorem ZL:VT Try.prog 99 (74,5,72) where
 callable:=⟨_,Try.func99,by kernel_rfl,by kernel_rfl⟩
 pos:=by decide
 calls w go go' u u' i n m cs cs' h1 h2 hne hl hl' ho ho' hi hm hmax:=by
  simp only at *
  obtain⟨g',c',arr',rfl,rfl,b1,b2,b3,b4,b5⟩:∃g c arr,go'=some g∧u'=.slice (some ⟨g.1,g.2,none⟩) m c∧w.heap[g.1]? = some (.cells arr 74 (0,0))∧c*5+g.2=arr.size∧m<=c∧c<=maxLen∧∀(j:Nat) x,cs'[j]? = some x->arr[g.2+j]? = some x:=by
   rcases h2 with⟨g,c,arr,k⟩|⟨_,rfl,_⟩
   ·exact⟨g,c,arr,by simpa using k⟩
   ·omega
  have hvs:∀(j:Nat) v,cs'[j]? = some v->w.cell? ⟨g'.1,g'.2+j,none⟩=some v:=fun j v hj=>by simp[World.cell?,b1,b5 j v hj]
  rcases h1 with⟨g,c,arr,rfl,rfl,a1,a2,a3,a4,a5⟩|⟨rfl,rfl,rfl,A,rfl⟩
  ·have hcs:∀(j:Nat) v,cs[j]? = some v->w.cell? ⟨g.1,g.2+j,none⟩=some v:=fun j v hj=>by simp[World.cell?,a1,a5 j v hj]
   have hfz:∀j,w.frozen? ⟨g.1,j,none⟩=false:=fun j=>by simp[World.frozen?,a1]
   have hbb:g.1≠g'.1:=hne g g' rfl rfl
   have hlt:g.1<w.heap.size:=(aeS.1 a1).1
   have hsp:∀j,j<(n+m)*5->n+m<=c->(w.cell? ⟨g.1,g.2+j,none⟩).isSome=true:=fun j hj hr=>by
    simp only[World.cell?,a1]
    rw[afQ (by omega)]
    rfl
   by_cases hin:i=n
   ·subst hin
    have ht:cs.take (i*5)=cs:=af6 (by omega)
    have hd:cs.drop (i*5)=[]:=agx (by omega)
    rw[ht,hd,agD]
    by_cases hroom:i+m<=c
    ·refine (JQ g.1 g.2 i c g'.1 g'.2 m c' cs' w hm hroom (by unfold maxLen at a4;omega) hl' (fun j hj=>by have:=hsp (i*5+j) (by omega) hroom;rwa [<- ae9]at this) hfz hvs ho').mono fun e w' ⟨he,hw⟩ =>?_
     subst hw
     obtain⟨e1,e2,e3,e4,e5,arr2,e6,e7,e8⟩:=fO g.1 cs' (g.2+i*5) w arr a1 (by omega)
     refine⟨_,he,⟨e1,e2,e3,by omega,fun k hk hn=>e5 k (fun h=>hn ⟨g,rfl,h⟩)⟩,g,c,arr2,rfl,.inr ⟨g,rfl,rfl⟩,e6,hroom,a4,by omega,fun j x hj =>?_⟩
     rw[e8]
     by_cases hj2:j<i*5
     ·rw[if_neg (by omega)]
      rw[afs (by omega)]at hj
      exact a5 j x hj
     ·have hjl:=(afh.1 hj).1
      rw[afP]at hjl
      rw[aft (by omega)]at hj
      rw[if_pos (by omega)]
      rw[<- hj];congr 1;omega
    ·refine (yA (some ⟨g.1,g.2,none⟩) i c g'.1 g'.2 m c' cs cs' w hm a3 (by unfold maxLen at a4;omega) (by omega) hmax hl hl' (fun h=>by cases h) (fun a ha j v hj=>by cases ha;rw[ahu];exact hcs j v hj) hvs ho').mono fun e w' ⟨he,hw⟩ =>?_
     subst hw
     have hge:=grownCap_ge w (i+m) c 74
     have hzl:=nd (grownCap w (i+m) c 74-(i+m))
     refine⟨_,he,dp.rm ((Below.refl _ w).drew.alloc (by simp) _),(w.heap.size,0),_,_,rfl,.inl (aeO _),heap_alloc_new w.drew _,hge,grownCap_le_maxLen _ _ _ _ (by unfold maxLen;omega),?_,fun j x hj =>?_⟩
     ·rw[afu]at hzl
      simp only[afY,afZ,afP,hzl];omega
     ·have hjl:=(afh.1 hj).1
      rw[afB,agr (by simpa using hjl)]
      simpa using hj
   ·have hin':i<n:=by omega
    by_cases hroom:n+m<=c
    ·refine (UU g.1 g.2 n c i g'.1 g'.2 m c' cs cs' w hin' hm hroom (by unfold maxLen at a4;omega) (Ne.symm hbb) hl hl' hcs (fun j hj=>hsp j hj hroom) hfz hvs ho ho' 74 74 arr'.size arr.size (by simp[World.shape?,b1]) (by simp[World.shape?,a1]) (by omega) (by simp[World.frozen?,b1]) (by simp[World.frozen?,b1])).mono fun e w' ⟨he,hw⟩ =>?_
     subst hw
     obtain⟨e1,e2,e3,e4,e5,arr2,e6,e7,e8⟩:=fO g.1 (cs.drop (i*5)) (g.2+(i+m)*5) w.drew arr a1 (by simp;omega)
     obtain⟨f1,f2,f3,f4,f5,arr3,f6,f7,f8⟩:=fO g.1 cs' (g.2+i*5) _ arr2 e6 (by omega)
     refine⟨_,he,⟨f1.trans e1,f2.trans e2,f3.trans e3,by rw[f4,e4];exact aeO _,fun k hk hn=>(f5 k (fun h=>hn ⟨g,rfl,h⟩)).trans (e5 k (fun h=>hn ⟨g,rfl,h⟩))⟩,g,c,arr3,rfl,.inr ⟨g,rfl,rfl⟩,f6,hroom,a4,by omega,fun j x hj =>?_⟩
     have hjl:=(afh.1 hj).1
     simp only[afP,ae7,ae8]at hjl
     rw[f8,e8]
     by_cases hj1:j<i*5
     ·rw[afs (by rw[ae7];omega),ae4,if_pos hj1]at hj
      rw[if_neg (by omega),if_neg (by simp;omega)]
      exact a5 j x hj
     ·rw[aft (by rw[ae7];omega),ae7,afS (by omega)]at hj
      by_cases hj2:j<(i+m)*5
      ·rw[afs (by omega)]at hj
       rw[if_pos (by omega),<- hj];congr 1;omega
      ·rw[aft (by omega)]at hj
       rw[if_neg (by omega),if_pos (by simp;omega),<- hj];congr 1;omega
    ·refine (Xu g.1 g.2 n c i g'.1 g'.2 m c' cs cs' w hin' hm a3 (by omega) hmax hl hl' hcs hvs ho ho').mono fun e w' ⟨he,hw⟩ =>?_
     subst hw
     have hge:=grownCap_ge w (n+m) c 74
     generalize hG:grownCap w (n+m) c 74=G at *
     have hz1:=nd (n+m-i)
     have hz2:=nd (G-(n+m))
     rw[afu]at hz1 hz2
     generalize hR:((cs.take (i*5)).toArray++Builtin.zeroCells lI.cells (n+m-i)++Builtin.zeroCells lI.cells (G-(n+m)))=R
     have hRs:R.size=G*5:=by subst hR;simp only[afY,afZ,ae7,hz1,hz2];omega
     have hR0:∀j,j<i*5->R[j]? = cs[j]?:=fun j hj=>by
      subst hR
      rw[Array.append_assoc,agr (by simp;omega)]
      simp[ae4,hj]
     have hw0:(w.alloc (.cells R 74)).drew.heap[w.heap.size]? = some (.cells R 74 (0,0)):=heap_alloc_new w _
     obtain⟨e1,e2,e3,e4,e5,arr2,e6,e7,e8⟩:=fO w.heap.size cs' (i*5) _ R hw0 (by omega)
     obtain⟨f1,f2,f3,f4,f5,arr3,f6,f7,f8⟩:=fO w.heap.size (cs.drop (i*5)) ((i+m)*5) (((w.alloc (.cells R 74)).drew.setCells w.heap.size (i*5) cs').drew) arr2 e6 (by simp;omega)
     refine⟨_,he,⟨f1.trans e1,f2.trans e2,f3.trans e3,?_,fun k hk hn =>?_⟩,(w.heap.size,0),G,arr3,rfl,.inl (aeO _),f6,hge,hG ▸ grownCap_le_maxLen _ _ _ _ (by unfold maxLen;omega),by simp only;omega,fun j x hj =>?_⟩
     ·rw[f4]
      show _<=((w.alloc (.cells R 74)).drew.setCells w.heap.size (i*5) cs').heap.size
      rw[e4]
      show _<=(w.alloc (.cells R 74)).heap.size
      simp
     ·rw[f5 k (by omega)]
      show ((w.alloc (.cells R 74)).drew.setCells w.heap.size (i*5) cs').heap[k]? = _
      rw[e5 k (by omega)]
      exact Below.heap_alloc w _ k hk
     ·have hjl:=(afh.1 hj).1
      simp only[afP,ae7,ae8]at hjl
      rw[afB,f8,e8]
      by_cases hj1:j<i*5
      ·rw[afs (by rw[ae7];omega),ae4,if_pos hj1]at hj
       rw[if_neg (by omega),if_neg (by omega),hR0 j hj1,hj]
      ·rw[aft (by rw[ae7];omega),ae7,afS (by omega)]at hj
       by_cases hj2:j<(i+m)*5
       ·rw[afs (by omega)]at hj
        rw[if_neg (by omega),if_pos (by omega),<- hj]
       ·rw[aft (by omega)]at hj
        rw[if_pos (by simp;omega),<- hj];congr 1;omega
  ·have hi0:i=0:=by omega
   subst hi0
   refine (yA A 0 0 g'.1 g'.2 m c' [] cs' w hm (aeO _) (by omega) (by omega) (by omega) rfl hl' (fun _=>rfl) (fun a ha j v hj=>by simp at hj) hvs ho').mono fun e w' ⟨he,hw⟩ =>?_
   subst hw
   have hge:=grownCap_ge w (0+m) 0 74
   have hzl:=nd (grownCap w (0+m) 0 74-(0+m))
   refine⟨_,he,dp.rm ((Below.refl _ w).drew.alloc (by simp) _),(w.heap.size,0),_,_,rfl,.inl (aeO _),heap_alloc_new w.drew _,hge,grownCap_le_maxLen _ _ _ _ (by unfold maxLen;omega),?_,fun j x hj =>?_⟩
   ·rw[afu]at hzl
    simp only[afY,afZ,List.nil_append,hzl];omega
   ·simp only[agB,List.take_nil,List.drop_nil,List.nil_append,agD]at hj
    have hjl:=(afh.1 hj).1
    rw[afB,agr (by simpa using hjl)]
    simpa using hj
theorem Zy {α:Type} (E:jf α) (hE:E.size=5):bT Try.prog 70 (mkE 74 E (jE (aI .i64) (fH (aI .i64))) (fun (l:List α) (x:Int×Int)=>WL l x.1 x.2)) where
 callable:=⟨_,Try.func70,by kernel_rfl,by kernel_rfl⟩
 calls lent ds rk out hg:=by
  obtain⟨pre,l,post,a,r,rfl,rfl,hr,rfl,rfl⟩:=N3 hg
  obtain⟨ai,aj⟩:=a
  unfold WL at hr
  split at hr
  rotate_left
  ·cases hr
  rename_i hcond
  obtain⟨hi0,hij,hjn,hlen⟩:=hcond
  simp only at hi0 hij hjn
  cases hr
  intro w M go u0 vs hM hgoM hz hmp hrow hlv hargs
  have hvs:vs = #[.int .i64 ai,.int .i64 aj]:=by
   have h1:vs.size=2:=hargs.size
   have e0:=V2 (hargs.at_ 0 (.int .i64 ai) rfl)
   have e1:=V2 (hargs.at_ 1 (.int .i64 aj) rfl)
   apply Array.ext
   ·simp[h1]
   ·intro k h2 h3
    have:k=0∨k=1:=by omega
    rcases this with rfl|rfl
    ·simpa [aeT,afQ h2] using e0
    ·simpa [aeT,afQ h2] using e1
  subst hvs
  simp only
  obtain⟨i,rfl⟩:∃i:Nat,ai=(i:Int):=⟨ai.toNat,by omega⟩
  obtain⟨j,rfl⟩:∃j:Nat,aj=(j:Int):=⟨aj.toNat,by omega⟩
  simp only[Int.toNat_natCast]
  have hijn:i<=j:=by omega
  have hjl:j<=l.length:=by omega
  have hnl:(l.take i++l.drop j).length=i+(l.length-j):=by rw[afP,ae7,ae8];omega
  have hlE:(ae E l).length=l.length*5:=by rw[bQ,hE]
  have henc:ae E (l.take i++l.drop j)=(ae E l).take (i*5)++(ae E l).drop (j*5):=by rw[fJ,<- hE,ew,oP]
  rcases hlv.2 ⟨0,0,[],false,false,false⟩ rfl rfl with⟨g,o',c,N,t,k0,k1,k2,k3,k4,k5⟩|⟨k0,hn0,A,k1⟩
  ·cases k0
   subst k1
   rw[hE]at k2
   obtain⟨cs,h1,h2,h3⟩:=hrow
   simp only[afP,hlE]at h2
   have hN:N=cs.size:=by
    simp only[World.shape?,h1,aeX,Prod.mk.injEq]at k5
    exact k5.2.symm
   have hc63:c<=9223372036854775807:=by unfold maxLen at k4;omega
   by_cases heq:i=j
   ·subst heq
    have hsame:l.take i++l.drop i=l:=agA i l
    rw[hsame]
    refine (LS (some ⟨g.1,o',none⟩) l.length c i w hjl k3 hc63 (fun h=>by cases h)).mono fun e w' ⟨he,hw⟩ =>?_
    subst hw
    refine⟨_,he,⟨rfl,rfl,rfl,aeO _,fun k _ _=>rfl⟩,trivial,?_⟩
    by_cases hcc:0<c∨pre.length=0
    ·obtain⟨k6,k7⟩:=k2 hcc
     refine .inl ⟨(g.1,o'),c,cs,rfl,.inr ⟨g,rfl,rfl⟩,h1,k3,k4,by rw[hE];omega,?_,fun k d hk =>?_⟩
     ·simp only;rw[hlE];omega
     ·have hkl:=(afh.1 hk).1
      have:=h3 (pre.length+k) d (by rw[aft (by omega),af3,afs hkl];exact hk)
      simp only
      rw[k6,ae9]
      exact⟨this.1,this.2.less fun b hb=>hb.imp id fun h=>⟨g,rfl,h⟩⟩
    ·have:c=0:=by omega
     subst this
     have hl0:l=[]:=afW (by omega)
     subst hl0
     exact .inr ⟨rfl,rfl,_,rfl⟩
   ·have hlt:i<j:=by omega
    obtain⟨k6,k7⟩:=k2 (.inl (by omega))
    subst k6
    obtain⟨Aq,hvals⟩:∃Aq:List Value,Aq=(List.range (l.length*5)).map fun k=>cs.getD (g.2+(pre.length+k)) undef:=⟨_,rfl⟩
    have hvl:Aq.length=l.length*5:=by rw[hvals];simp
    have hvk:∀k,k<l.length*5->Aq[k]? = some (cs.getD (g.2+(pre.length+k)) undef):=fun k hk=>by rw[hvals,aeL,List.getElem?_range hk];rfl
    have hrel:∀k d,(ae E l)[k]? = some d->aU d=true∧RP w (fun b=>M b∨tz (some g) b) d (cs.getD (g.2+(pre.length+k)) undef):=fun k d hk=>by
     have hkl:=(afh.1 hk).1
     exact h3 (pre.length+k) d (by rw[aft (by omega),af3,afs hkl];exact hk)
    have hcell:∀k v,Aq[k]? = some v->w.cell? ⟨g.1,g.2+pre.length+k,none⟩=some v:=fun k v hk=>by
     have hkl:=(afh.1 hk).1
     rw[hvk k (by omega)]at hk
     have:=bu h1 (j:=g.2+pre.length+k) (by omega)
     rw[this,ae9]
     exact hk
    have hone:∀v∈Aq,v.oneCell'=true:=fun v hv=>by
     obtain⟨k,hk⟩:=afa hv
     have hkl:=(afh.1 hk).1
     rw[hvk k (by omega)]at hk
     obtain⟨p1,p2⟩:=hrel k _ (ae1 (by omega))
     have:=p2.vV p1
     rwa [Option.some.inj hk]at this
    refine (WN g.1 (g.2+pre.length) l.length c i j Aq w hvl hcell (fun k=>by simp[World.frozen?,h1]) hone k3 hc63 hlt hjl).mono fun e w' ⟨he,hw⟩ =>?_
    have hzl:=nd (l.length-(i+(l.length-j)))
    have hdl:(Aq.drop (j*5)).length=(l.length-j)*5:=by rw[ae8,hvl,Nat.sub_mul]
    obtain⟨e1,e2,e3,e4,e5,arr2,e6,e7,e8⟩:=fO g.1 (Aq.drop (j*5)) (g.2+pre.length+i*5) w.drew cs h1 (by omega)
    obtain⟨f1,f2,f3,f4,f5,arr3,f6,f7,f8⟩:=fO g.1 (Builtin.zeroCells lI.cells (l.length-(i+(l.length-j)))).toList (g.2+pre.length+(i+(l.length-j))*5) _ arr2 e6 (by omega)
    rw[<- hw]at f1 f2 f3 f4 f5 f6
    have hbey:dp (tz (some g)) w w':=⟨f1.trans e1,f2.trans e2,f3.trans e3,by rw[f4,e4];exact aeO _,fun k hk hn=>(f5 k (fun h=>hn ⟨g,rfl,h⟩)).trans (e5 k (fun h=>hn ⟨g,rfl,h⟩))⟩
    refine⟨_,he,hbey,trivial,.inl ⟨(g.1,g.2+pre.length),c,arr3,by rw[hnl],.inr ⟨g,rfl,rfl⟩,f6,by rw[hnl];omega,k4,by rw[hE];simp only;omega,?_,fun k d hk =>?_⟩⟩
    ·simp only;rw[bQ,hE,hnl];omega
    ·have hkl:=(afh.1 hk).1
     rw[bQ,hE,hnl]at hkl
     rw[henc]at hk
     have hval:∀k':Nat,(ae E l)[k']? = some d->Aq[k']? = arr3[g.2+pre.length+k]?->aU d=true∧RP w' (fun b=>M b∨b=g.1) d (arr3.getD (g.2+pre.length+k) undef):=by
      intro k' hk' hv
      have hkl':=(afh.1 hk').1
      obtain⟨p1,p2⟩:=hrel k' d hk'
      rw[hvk k' (by omega)]at hv
      refine⟨p1,?_⟩
      rw[aeT,<- hv]
      refine p2.keep fun b q1 q2=>⟨aeR q1 hbey.size,?_,hbey.block b q1 (fun hn=>q2 (.inr hn))⟩
      rintro (hb|hb)
      ·exact q2 (.inl hb)
      ·exact q2 (.inr ⟨g,rfl,hb⟩)
     simp only
     by_cases hk1:k<i*5
     ·rw[afs (by rw[ae7];omega),ae4,if_pos hk1]at hk
      apply hval k hk
      rw[f8,if_neg (by omega),e8,if_neg (by omega),hvk k (by omega),aeT,ae9,afQ (show g.2+(pre.length+k)<cs.size by omega)]
      rfl
     ·rw[aft (by rw[ae7];omega),ae7,afS (by omega),ae5]at hk
      refine hval (j*5+(k-i*5)) hk ?_
      rw[f8,if_neg (by omega),e8,if_pos (by omega),ae5]
      congr 1;omega
  ·subst k1
   have hl0:l=[]:=afW hn0
   subst hl0
   simp only[List.length_nil]at hjl
   obtain rfl:j=0:=by omega
   obtain rfl:i=0:=by omega
   refine (LS A 0 0 0 w (aeO _) (aeO _) (by decide) (fun _=>rfl)).mono fun e w' ⟨he,hw⟩ =>?_
   subst hw
   exact⟨_,he,⟨rfl,rfl,rfl,aeO _,fun k _ _=>rfl⟩,trivial,.inr ⟨rfl,rfl,_,rfl⟩⟩
end Go.Proofs.Ytchndpjlijbplaa.Am
namespace Go.Proofs.Ytchndpjlijbplaa.P
open Go.RowKit
structure aq where
 ah:Int
 aa:(List Int)
structure al where
 aJ:aq
 aL:aq
structure fa where
 dq:Int
 lJ:Int
 bR:al
structure de where
 aG:Int
 aw:(List fa)
structure dH where
 l5:Int
 dW:al
structure az where
 aX:al
 bA:(List dH)
def acx:ByteArray:=ByteArray.mk #[0,1,2,2,3,3,3,3,4,4,4,4,4,4,4,4,5,5,5,5,5,5,5,5,5,5,5,5,5,5,5,5,6,6,6,6,6,6,6,6,6,6,6,6,6,6,6,6,6,6,6,6,6,6,6,6,6,6,6,6,6,6,6,6,7,7,7,7,7,7,7,7,7,7,7,7,7,7,7,7,7,7,7,7,7,7,7,7,7,7,7,7,7,7,7,7,7,7,7,7,7,7,7,7,7,7,7,7,7,7,7,7,7,7,7,7,7,7,7,7,7,7,7,7,7,7,7,7,8,8,8,8,8,8,8,8,8,8,8,8,8,8,8,8,8,8,8,8,8,8,8,8,8,8,8,8,8,8,8,8,8,8,8,8,8,8,8,8,8,8,8,8,8,8,8,8,8,8,8,8,8,8,8,8,8,8,8,8,8,8,8,8,8,8,8,8,8,8,8,8,8,8,8,8,8,8,8,8,8,8,8,8,8,8,8,8,8,8,8,8,8,8,8,8,8,8,8,8,8,8,8,8,8,8,8,8,8,8,8,8,8,8,8,8,8,8,8,8,8,8,8,8,8,8,8,8]
def Bl (p0:(List Int)):(Int)->Option ((Int)⊕((Int)))
 | s3a =>
  if decide (s3a>0) then
   (P.idx p0 (IntKind.i64.wrap (s3a-1))).bind fun x6 =>
   if (x6==0) then
    some (.inl (IntKind.i64.wrap (s3a-1)))
   else
    some (.inr s3a)
  else
   some (.inr s3a)
def jW (p0:(List Int)):Option ((List Int)) :=
 (aO (Bl p0) (p0.length:Int)).bind fun s3ax =>
 (BT p0 0 s3ax).bind fun x8 =>
 (iB 8 [] x8).bind fun _ =>
 some x8
def jV (p0:Int) (p1:(List Int)):Option (aq) :=
 (jW p1).bind fun r1 =>
 if ((r1.length:Int)==0) then
  some (aq.mk 0 ([]))
 else
  some (aq.mk p0 r1)
def Io:(Int×(List Int))->Option ((Int×(List Int))⊕(((List Int))))
 | (s0b,l4b) =>
  if (s0b != 0) then
   (uI .i64 s0b 1048576).bind fun x17 =>
   if decide (x17<0) then
    (iB 8 l4b [IntKind.i64.wrap (0-x17)]).bind fun x20 =>
    (CZ .i64 s0b 1048576).bind fun x22 =>
    some (.inl (x22,x20))
   else
    (iB 8 l4b [x17]).bind fun x24 =>
    (CZ .i64 s0b 1048576).bind fun x26 =>
    some (.inl (x26,x24))
  else
   some (.inr l4b)
def Ae (p0:Int):Option (aq) :=
 if (p0==0) then
  some (aq.mk 0 ([]))
 else
  (if decide (p0<0) then
   some (-1)
  else
   some 1).bind fun s3j1 =>
  (aO (Io) (p0,[])).bind fun l4bx =>
  (jV s3j1 l4bx).bind fun r28 =>
  some r28
def yW (p0:aq):(Int)->Option ((Int)⊕((Unit)⊕(Bool)))
 | s3a =>
  if decide (s3a<(p0.aa.length:Int)) then
   (P.idx p0.aa s3a).bind fun x7 =>
   if decide (x7<0) then
    some (.inr (.inr false))
   else
    if decide (x7>=1048576) then
     some (.inr (.inr false))
    else
     some (.inl (IntKind.i64.wrap (s3a+1)))
  else
   some (.inr (.inl ()))
def iy (p0:aq):Option (Bool) :=
 (aO (yW p0) 0).bind fun q=>match q with
 | (.inl _) =>
  (if decide (p0.ah<(-1)) then
   some true
  else
   if decide (p0.ah>1) then
    some true
   else
    some (!(((p0.aa.length:Int)==0)==(p0.ah==0)))).bind fun s44j2 =>
  if s44j2 then
   some false
  else
   if ((p0.aa.length:Int)==0) then
    some true
   else
    (P.idx p0.aa (IntKind.i64.wrap ((p0.aa.length:Int)-1))).bind fun x13 =>
    some (x13 != 0)
 | (.inr ra) =>
  some ra
def v8 (p0:aq):Option (aq) :=
 (iy p0).bind fun r1 =>
 if (!r1) then
  some (aq.mk 0 ([]))
 else
  (jV (IntKind.i64.wrap (0-p0.ah)) p0.aa).bind fun r3 =>
  some r3
def jo (p0:(List Int)) (p1:Int):Option (Int) :=
 if decide (p1<(p0.length:Int)) then
  (P.idx p0 p1).bind fun x2 =>
  some x2
 else
  some 0
def yZ (p0:(List Int)) (p1:(List Int)) (s6a:Int):(Int×Int×(List Int))->Option ((Int×Int×(List Int))⊕(((List Int))))
 | (s7e,s8e,l5e) =>
  (if decide (s8e<(p1.length:Int)) then
   some true
  else
   some (decide (s7e>0))).bind fun s29j7 =>
  if s29j7 then
   (P.idx l5e (IntKind.i64.wrap (s6a+s8e))).bind fun x43 =>
   (P.idx p0 s6a).bind fun x44 =>
   (jo p1 s8e).bind fun r45 =>
   (uI .i64 (IntKind.i64.wrap ((IntKind.i64.wrap (x43+(IntKind.i64.wrap (x44*r45))))+s7e)) 1048576).bind fun x46 =>
   (CZ .i64 (IntKind.i64.wrap ((IntKind.i64.wrap (x43+(IntKind.i64.wrap (x44*r45))))+s7e)) 1048576).bind fun x49 =>
   some (.inl (x49,IntKind.i64.wrap (s8e+1),(l5e.set (IntKind.i64.wrap (s6a+s8e)).toNat x46)))
  else
   some (.inr l5e)
def yY (p0:(List Int)) (p1:(List Int)):(Int×(List Int))->Option ((Int×(List Int))⊕(((List Int))))
 | (s6a,l5a) =>
  if decide (s6a<(p0.length:Int)) then
   (aO (yZ p0 p1 s6a) (0,0,l5a)).bind fun l5ex =>
   some (.inl (IntKind.i64.wrap (s6a+1),l5ex))
  else
   some (.inr l5a)
def oV (p0:(List Int)) (p1:(List Int)):Option ((List Int)) :=
 (B1 8 (IntKind.i64.wrap ((p0.length:Int)+(p1.length:Int))) (IntKind.i64.wrap ((p0.length:Int)+(p1.length:Int))) 0).bind fun x1 =>
 (aO (yY p0 p1) (0,x1)).bind fun l5ax =>
 (jW l5ax).bind fun r52 =>
 some r52
def Bh (p0:(List Int)) (p1:(List Int)):(Int)->Option ((Int)⊕((Unit)⊕(Bool)))
 | s5a =>
  if decide (s5a>=0) then
   (jo p0 s5a).bind fun r7 =>
   (jo p1 s5a).bind fun r8 =>
   if (r7 != r8) then
    some (.inr (.inr (decide (r7<r8))))
   else
    some (.inl (IntKind.i64.wrap (s5a-1)))
  else
   some (.inr (.inl ()))
def uR (p0:(List Int)) (p1:(List Int)):Option (Bool) :=
 (aO (Bh p0 p1) (IntKind.i64.wrap ((if (p1.length:Int)>(p0.length:Int) then (p1.length:Int) else (p0.length:Int))-1))).bind fun q=>match q with
 | (.inl _) =>
  some false
 | (.inr ra) =>
  some ra
def yX (p0:(List Int)) (p1:(List Int)):(Int×Int×(List Int))->Option ((Int×Int×(List Int))⊕(((List Int))))
 | (s6a,s7a,l5a) =>
  if decide (s7a<(p0.length:Int)) then
   (P.idx p0 s7a).bind fun x11 =>
   (jo p1 s7a).bind fun r12 =>
   if decide ((IntKind.i64.wrap ((IntKind.i64.wrap (x11-r12))-s6a))<0) then
    (iB 8 l5a [IntKind.i64.wrap ((IntKind.i64.wrap ((IntKind.i64.wrap (x11-r12))-s6a))+1048576)]).bind fun x14 =>
    some (.inl (1,IntKind.i64.wrap (s7a+1),x14))
   else
    (iB 8 l5a [IntKind.i64.wrap ((IntKind.i64.wrap (x11-r12))-s6a)]).bind fun x16 =>
    some (.inl (0,IntKind.i64.wrap (s7a+1),x16))
  else
   some (.inr l5a)
def oU (p0:(List Int)) (p1:(List Int)):Option ((List Int)) :=
 (aO (yX p0 p1) (0,0,[])).bind fun l5ax =>
 (jW l5ax).bind fun r18 =>
 some r18
def Bj (p1:(List Int)) (r34:(List Int)):(Int×Int)->Option ((Int×Int)⊕((Int)))
 | (s9c,s10c) =>
  if decide ((IntKind.i64.wrap (s10c-s9c))>1) then
   (CZ .i64 (IntKind.i64.wrap (s9c+s10c)) 2).bind fun x44 =>
   (oV p1 ([x44])).bind fun r47 =>
   (uR r34 r47).bind fun r48 =>
   if r48 then
    some (.inl (s9c,x44))
   else
    some (.inl (x44,s10c))
  else
   some (.inr s9c)
def Bi (p0:(List Int)) (p1:(List Int)):((List Int)×Int×(List Int))->Option (((List Int)×Int×(List Int))⊕(((List Int)×(List Int))))
 | (s7a,s8a,l6a) =>
  if decide (s8a>=0) then
   (P.idx p0 s8a).bind fun x31 =>
   (iB 8 [x31] s7a).bind fun x32 =>
   (jW x32).bind fun r34 =>
   (aO (Bj p1 r34) (0,1048576)).bind fun s9cx =>
   (P.idx l6a s8a).bind fun x50 =>
   (jW ([s9cx])).bind fun r53 =>
   (oV p1 r53).bind fun r54 =>
   (oU r34 r54).bind fun r55 =>
   some (.inl (r55,IntKind.i64.wrap (s8a-1),(l6a.set (s8a).toNat s9cx)))
  else
   some (.inr (s7a,l6a))
def ru (p0:(List Int)) (p1:(List Int)):Option ((List Int)×(List Int)) :=
 (B1 8 (p0.length:Int) (p0.length:Int) 0).bind fun x1 =>
 (aO (Bi p0 p1) ([],IntKind.i64.wrap ((p0.length:Int)-1),x1)).bind fun q=>match q with
 | (s7ax,l6ax) =>
  (jW l6ax).bind fun r56 =>
  some (r56,s7ax)
def EL:((List Int)×(List Int))->Option (((List Int)×(List Int))⊕(((List Int))))
 | (s6b,s7b) =>
  if decide ((s7b.length:Int)>0) then
   (ru s6b s7b).bind fun r8 =>
   some (.inl (s7b,r8.2))
  else
   some (.inr s6b)
def yV (p0:aq) (p1:aq):Option (aq×Int) :=
 (iy p0).bind fun r1 =>
 (if (!r1) then
  some true
 else
  (iy p1).bind fun r11 =>
  some (!r11)).bind fun s17j1 =>
 if s17j1 then
  some ((aq.mk 0 ([])),1)
 else
  (aO (EL) (p0.aa,p1.aa)).bind fun s6bx =>
  (jV 1 s6bx).bind fun r9 =>
  some (r9,0)
def Bk (p0:(List Int)) (p1:(List Int)):(Int×Int×(List Int))->Option ((Int×Int×(List Int))⊕(((List Int))))
 | (s6a,s7a,l5a) =>
  (if decide (s7a<(p0.length:Int)) then
   some true
  else
   if decide (s7a<(p1.length:Int)) then
    some true
   else
    some (decide (s6a>0))).bind fun s22j3 =>
  if s22j3 then
   (jo p0 s7a).bind fun r16 =>
   (jo p1 s7a).bind fun r17 =>
   (uI .i64 (IntKind.i64.wrap ((IntKind.i64.wrap (r16+r17))+s6a)) 1048576).bind fun x18 =>
   (iB 8 l5a [x18]).bind fun x20 =>
   (CZ .i64 (IntKind.i64.wrap ((IntKind.i64.wrap (r16+r17))+s6a)) 1048576).bind fun x22 =>
   some (.inl (x22,IntKind.i64.wrap (s7a+1),x20))
  else
   some (.inr l5a)
def uS (p0:(List Int)) (p1:(List Int)):Option ((List Int)) :=
 (aO (Bk p0 p1) (0,0,[])).bind fun l5ax =>
 (jW l5ax).bind fun r26 =>
 some r26
def v7 (p0:aq) (p1:aq):Option (aq×aq×Int) :=
 (iy p0).bind fun r1 =>
 (if (!r1) then
  some true
 else
  (iy p1).bind fun r17 =>
  some (!r17)).bind fun s16j1 =>
 if s16j1 then
  some ((aq.mk 0 ([])),(aq.mk 0 ([])),1)
 else
  if (p1.ah==0) then
   some ((aq.mk 0 ([])),(aq.mk 0 ([])),15)
  else
   (ru p0.aa p1.aa).bind fun r5 =>
   (if decide ((IntKind.i64.wrap (p0.ah*p1.ah))>=0) then
    some true
   else
    some ((r5.2.length:Int)==0)).bind fun s42j2 =>
   if s42j2 then
    (jV (IntKind.i64.wrap (p0.ah*p1.ah)) r5.1).bind fun r8 =>
    (jV p0.ah r5.2).bind fun r9 =>
    some (r8,r9,0)
   else
    (uS r5.1 ([1])).bind fun r11 =>
    (jV (-1) r11).bind fun r12 =>
    (oU p1.aa r5.2).bind fun r13 =>
    (jV p1.ah r13).bind fun r14 =>
    some (r12,r14,0)
def y4 (p0:aq) (p1:aq):Option (al×Int) :=
 (iy p0).bind fun r1 =>
 (if (!r1) then
  some true
 else
  (iy p1).bind fun r13 =>
  some (!r13)).bind fun s21j1 =>
 if s21j1 then
  some ((al.mk (aq.mk 0 ([])) (aq.mk 0 ([]))),1)
 else
  if (p1.ah==0) then
   some ((al.mk (aq.mk 0 ([])) (aq.mk 0 ([]))),15)
  else
   (if decide (p1.ah<0) then
    (v8 p0).bind fun r10 =>
    (v8 p1).bind fun r11 =>
    some (r10.ah,r10.aa,r11.ah,r11.aa)
   else
    some (p0.ah,p0.aa,p1.ah,p1.aa)).bind fun q=>match q with
   | (r2_0j2,r2_1j2,r3_0j2,r3_1j2) =>
    (yV (aq.mk r2_0j2 r2_1j2) (aq.mk r3_0j2 r3_1j2)).bind fun r6 =>
    (v7 (aq.mk r2_0j2 r2_1j2) r6.1).bind fun r7 =>
    (v7 (aq.mk r3_0j2 r3_1j2) r6.1).bind fun r8 =>
    some ((al.mk r7.1 r8.1),0)
def Af (p0:Int) (p1:Int):Option (al×Int) :=
 (Ae p0).bind fun r1 =>
 (Ae p1).bind fun r2 =>
 (y4 r1 r2).bind fun r3 =>
 some (r3.1,r3.2)
def y3 (p0:Int):Option (al) :=
 (Af p0 1).bind fun r1 =>
 some r1.1
def gU (p0:Int) (p1:Int) (p2:Int):Option (Bool) :=
 if decide (p0>=p1) then
  some (decide (p0<=p2))
 else
  some false
def ov (p0:aq):(Int)->Option ((Int)⊕((Unit)⊕(Bool)))
 | s12a =>
  if decide (s12a<(p0.aa.length:Int)) then
   (P.idx p0.aa s12a).bind fun x7 =>
   if decide (x7<0) then
    some (.inr (.inr false))
   else
    if decide (x7>1048575) then
     some (.inr (.inr false))
    else
     some (.inl (IntKind.i64.wrap (s12a+1)))
  else
   some (.inr (.inl ()))
def cl (p0:aq):Option (Bool) :=
 (aO (ov p0) 0).bind fun q=>match q with
 | (.inl _) =>
  if ((p0.aa.length:Int)==0) then
   some (p0.ah==0)
  else
   if (p0.ah==1) then
    (P.idx p0.aa (IntKind.i64.wrap ((p0.aa.length:Int)-1))).bind fun x12 =>
    some (x12 != 0)
   else
    if (p0.ah==(-1)) then
     (P.idx p0.aa (IntKind.i64.wrap ((p0.aa.length:Int)-1))).bind fun x14 =>
     some (x14 != 0)
    else
     some false
 | (.inr ra) =>
  some ra
def dN (p0:Bool) (p1:aq):Option (aq×Int) :=
 if (!p0) then
  some ((aq.mk 0 ([])),1)
 else
  some (p1,0)
def cz (p0:(List Int)):Option (List Int):=iB 8 [] p0
def mQ (p0:Int):Option (Bool) :=
 some (p0 != p0)
def eC (p0:Int) (p1:Int):Option (Int) :=
 (mQ p0).bind fun r1 =>
 (mQ p1).bind fun r2 =>
 if r1 then
  if r2 then
   some 0
  else
   some (-1)
 else
  if r2 then
   some 1
  else
   if decide (p0<p1) then
    some (-1)
   else
    if decide (p0>p1) then
     some 1
    else
     some 0
def lU (p0:(List Int)) (p1:(List Int)):(Int)->Option ((Int)⊕((Unit)⊕(Int)))
 | s5a =>
  if decide (s5a>=0) then
   (P.idx p0 s5a).bind fun x10 =>
   (P.idx p1 s5a).bind fun x11 =>
   if (x10 != x11) then
    (eC x10 x11).bind fun r13 =>
    some (.inr (.inr r13))
   else
    some (.inl (IntKind.i64.wrap (s5a-1)))
  else
   some (.inr (.inl ()))
def eW (p0:(List Int)) (p1:(List Int)):Option (Int) :=
 if ((p0.length:Int) != (p1.length:Int)) then
  (eC (p0.length:Int) (p1.length:Int)).bind fun r2 =>
  some r2
 else
  (aO (lU p0 p1) (IntKind.i64.wrap ((p0.length:Int)-1))).bind fun q=>match q with
  | (.inl _) =>
   some 0
  | (.inr ra) =>
   some ra
def nE (p0:(List Int)):(Int)->Option ((Int)⊕((Int)))
 | s3a =>
  if decide (s3a>0) then
   (P.idx p0 (IntKind.i64.wrap (s3a-1))).bind fun x6 =>
   if (x6==0) then
    some (.inl (IntKind.i64.wrap (s3a-1)))
   else
    some (.inr s3a)
  else
   some (.inr s3a)
def dO (p0:(List Int)):Option ((List Int)) :=
 (aO (nE p0) (p0.length:Int)).bind fun s3ax =>
 (BT p0 0 s3ax).bind fun x8 =>
 some x8
def ox (p0:(List Int)) (p1:Int):(Int×Int×(List Int))->Option ((Int×Int×(List Int))⊕((Int×(List Int))))
 | (s7a,s8a,l6a) =>
  if decide (s8a>=0) then
   (tK .i64 s7a 20).bind fun x15 =>
   (P.idx p0 s8a).bind fun x17 =>
   (CZ .i64 (cV .or .i64 x15 x17) p1).bind fun x18 =>
   (P.idx l6a s8a).bind fun x20 =>
   (uI .i64 (cV .or .i64 x15 x17) p1).bind fun x22 =>
   some (.inl (x22,IntKind.i64.wrap (s8a-1),(l6a.set (s8a).toNat x18)))
  else
   some (.inr (s7a,l6a))
def lx (p0:(List Int)) (p1:Int):Option ((List Int)×Int) :=
 (B1 8 (p0.length:Int) (p0.length:Int) 0).bind fun x1 =>
 (aO (ox p0 p1) (0,IntKind.i64.wrap ((p0.length:Int)-1),x1)).bind fun q=>match q with
 | (s7ax,l6ax) =>
  (dO l6ax).bind fun r24 =>
  some (r24,s7ax)
def rX (p1:(List Int)) (s20a:Int) (x22:Int):(Int×Int×(List Int))->Option ((Int×Int×(List Int))⊕((Int×(List Int))))
 | (s8c,s27c,l5c) =>
  if decide (s27c<(p1.length:Int)) then
   (P.idx p1 s27c).bind fun x31 =>
   (P.idx l5c (IntKind.i64.wrap (s20a+s27c))).bind fun x32 =>
   (nc .i64 (IntKind.i64.wrap ((IntKind.i64.wrap (x32+(IntKind.i64.wrap (x22*x31))))+s8c)) 20).bind fun x33 =>
   some (.inl (x33,IntKind.i64.wrap (s27c+1),(l5c.set (IntKind.i64.wrap (s20a+s27c)).toNat (cV .and .i64 (IntKind.i64.wrap ((IntKind.i64.wrap (x32+(IntKind.i64.wrap (x22*x31))))+s8c)) 1048575))))
  else
   some (.inr (s8c,l5c))
def rW (p0:(List Int)) (p1:(List Int)):(Int×(List Int))->Option ((Int×(List Int))⊕(((List Int))))
 | (s20a,l5a) =>
  if decide (s20a<(p0.length:Int)) then
   (P.idx p0 s20a).bind fun x22 =>
   (aO (rX p1 s20a x22) (0,0,l5a)).bind fun q=>match q with
   | (s8cx,l5cx) =>
    (P.idx l5cx (IntKind.i64.wrap (s20a+(p1.length:Int)))).bind fun x36 =>
    some (.inl (IntKind.i64.wrap (s20a+1),(l5cx.set (IntKind.i64.wrap (s20a+(p1.length:Int))).toNat (IntKind.i64.wrap (x36+s8cx)))))
  else
   some (.inr l5a)
def ow (p0:(List Int)) (p1:(List Int)):Option ((List Int)) :=
 (B1 8 (IntKind.i64.wrap ((p0.length:Int)+(p1.length:Int))) (IntKind.i64.wrap ((p0.length:Int)+(p1.length:Int))) 0).bind fun x1 =>
 (aO (rW p0 p1) (0,x1)).bind fun l5ax =>
 (dO l5ax).bind fun r39 =>
 some r39
def kN (p0:(List Int)) (p1:(List Int)) (p2:Int):(Int×Int×(List Int))->Option ((Int×Int×(List Int))⊕((Int×(List Int))))
 | (s7a,s14a,l0a) =>
  if decide (s14a<((p0).length:Int)) then
   (P.idx l0a s14a).bind fun x11 =>
   (if decide (s14a<(p1.length:Int)) then
    (P.idx p1 s14a).bind fun x17 =>
    some (IntKind.i64.wrap ((IntKind.i64.wrap (x11-s7a))-(IntKind.i64.wrap (p2*x17))))
   else
    some (IntKind.i64.wrap (x11-s7a))).bind fun s9j3 =>
   (nc .i64 s9j3 20).bind fun x14 =>
   some (.inl (IntKind.i64.wrap (0-x14),IntKind.i64.wrap (s14a+1),(l0a.set (s14a).toNat (cV .and .i64 s9j3 1048575))))
  else
   some (.inr (s7a,l0a))
def kO (p1:(List Int)) (l0ax:(List Int)):(Int×Int×(List Int))->Option ((Int×Int×(List Int))⊕(((List Int))))
 | (s10d,s49d,l0d) =>
  if decide (s49d<((l0ax).length:Int)) then
   (P.idx l0d s49d).bind fun x29 =>
   (if decide (s49d<(p1.length:Int)) then
    (P.idx p1 s49d).bind fun x35 =>
    some (IntKind.i64.wrap ((IntKind.i64.wrap (s10d+x29))+x35))
   else
    some (IntKind.i64.wrap (s10d+x29))).bind fun s10j6 =>
   (nc .i64 s10j6 20).bind fun x32 =>
   some (.inl (x32,IntKind.i64.wrap (s49d+1),(l0d.set (s49d).toNat (cV .and .i64 s10j6 1048575))))
  else
   some (.inr l0d)
def pk (p0:(List Int)) (p1:(List Int)) (p2:Int):Option ((List Int)×(Int)) :=
 (aO (kN p0 p1 p2) (0,0,p0)).bind fun q=>match q with
 | (s7ax,l0ax) =>
  if (s7ax==0) then
   some (l0ax,p2)
  else
   (aO (kO p1 l0ax) (0,0,l0ax)).bind fun l0dx =>
   some (l0dx,IntKind.i64.wrap (p2-1))
def fA (p0:(List Int)) (p1:(List Int)) (p2:Int):Option ((List Int)×(Int)):=(pk p0 p1 p2).bind fun r=>if r.1.length=p0.length then some r else none
theorem zV {p0:(List Int)} {p1:(List Int)} {p2:Int} {r:(List Int)×(Int)} (h:fA p0 p1 p2=some r):r.1.length=p0.length:=by
 unfold fA at h
 obtain⟨q,hq,h⟩:=ag h
 split at h
 ·cases h;assumption
 ·cases h
def rT (p1:(List Int)):(Int)->Option ((Int)⊕((Int)))
 | s8a =>
  (P.idx p1 (IntKind.i64.wrap ((p1.length:Int)-1))).bind fun x12 =>
  if decide ((IntKind.i64.wrap (x12*s8a))<524288) then
   some (.inl (IntKind.i64.wrap (s8a*2)))
  else
   some (.inr s8a)
def rV (r19:(List Int)) (s13c:Int) (l9c:(List Int)) (x64:Int):(Int×Int)->Option ((Int×Int)⊕((Int)))
 | (s15g,s16g) =>
  (if decide (s15g>=1048576) then
   some true
  else
   if decide (s16g<1048576) then
    (P.idx r19 (IntKind.i64.wrap (((r19).length:Int)-2))).bind fun x83 =>
    (tK .i64 s16g 20).bind fun x84 =>
    (P.idx l9c (IntKind.i64.wrap ((IntKind.i64.wrap (s13c+((r19).length:Int)))-2))).bind fun x86 =>
    some (decide ((IntKind.i64.wrap (s15g*x83))>(cV .or .i64 x84 x86)))
   else
    some false).bind fun s137j9 =>
  if s137j9 then
   some (.inl (IntKind.i64.wrap (s15g-1),IntKind.i64.wrap (s16g+x64)))
  else
   some (.inr s15g)
def rU (r19:(List Int)):(Int×(List Int)×(List Int))->Option ((Int×(List Int)×(List Int))⊕(((List Int)×(List Int))))
 | (s13c,l9c,l12c) =>
  if decide (s13c>=0) then
   (P.idx l9c (IntKind.i64.wrap (s13c+((r19).length:Int)))).bind fun x60 =>
   (tK .i64 x60 20).bind fun x61 =>
   (P.idx l9c (IntKind.i64.wrap ((IntKind.i64.wrap (s13c+((r19).length:Int)))-1))).bind fun x63 =>
   (P.idx r19 (IntKind.i64.wrap (((r19).length:Int)-1))).bind fun x64 =>
   (CZ .i64 (cV .or .i64 x61 x63) x64).bind fun x65 =>
   (uI .i64 (cV .or .i64 x61 x63) x64).bind fun x67 =>
   (aO (rV r19 s13c l9c x64) (x65,x67)).bind fun s15gx =>
   (BT l9c s13c (IntKind.i64.wrap ((IntKind.i64.wrap (s13c+((r19).length:Int)))+1))).bind fun x87 =>
   (fA x87 r19 s15gx).bind fun r90 =>
   (P.idx l12c s13c).bind fun x92 =>
   some (.inl (IntKind.i64.wrap (s13c-1),(l9c.take (s13c).toNat++(r90.1++l9c.drop (IntKind.i64.wrap ((IntKind.i64.wrap (s13c+((r19).length:Int)))+1)).toNat)),(l12c.set (s13c).toNat r90.2)))
  else
   some (.inr (l9c,l12c))
def p6 (p0:(List Int)) (p1:(List Int)):Option ((List Int)×(List Int)) :=
 (eW p0 p1).bind fun r1 =>
 if decide (r1<0) then
  (cz p0).bind fun r3 =>
  some ([],r3)
 else
  if ((p1.length:Int)==1) then
   (P.idx p1 0).bind fun x5 =>
   (lx p0 x5).bind fun r6 =>
   (dO ([r6.2])).bind fun r8 =>
   some (r6.1,r8)
  else
   (aO (rT p1) 1).bind fun s8ax =>
   (ow p0 ([s8ax])).bind fun r15 =>
   (iB 8 r15 [0]).bind fun x16 =>
   (ow p1 ([s8ax])).bind fun r19 =>
   (if (((x16).length:Int)==(p0.length:Int)) then
    (iB 8 x16 [0]).bind fun x98 =>
    some x98
   else
    some x16).bind fun l9j2 =>
   (B1 8 (IntKind.i64.wrap (((l9j2).length:Int)-((r19).length:Int))) (IntKind.i64.wrap (((l9j2).length:Int)-((r19).length:Int))) 0).bind fun x21 =>
   (aO (rU r19) (IntKind.i64.wrap (((x21).length:Int)-1),l9j2,x21)).bind fun q=>match q with
   | (l9cx,l12cx) =>
    (dO l9cx).bind fun r94 =>
    (lx r94 s8ax).bind fun r95 =>
    (dO l12cx).bind fun r96 =>
    some (r96,r95.1)
def cv (p0:Int) (p1:(List Int)):Option (aq) :=
 (dO p1).bind fun r1 =>
 if ((r1.length:Int)==0) then
  some (aq.mk 0 ([]))
 else
  some (aq.mk p0 r1)
def pg:((List Int)×(List Int))->Option (((List Int)×(List Int))⊕(((List Int))))
 | (s6b,s7b) =>
  if decide ((s7b.length:Int)>0) then
   (p6 s6b s7b).bind fun r11 =>
   some (.inl (s7b,r11.2))
  else
   some (.inr s6b)
def ou (p0:aq) (p1:aq):Option (aq×Int) :=
 (cl p0).bind fun r1 =>
 (if (!r1) then
  some true
 else
  (cl p1).bind fun r16 =>
  some (!r16)).bind fun s17j1 =>
 if s17j1 then
  (dN false (aq.mk 0 ([]))).bind fun r5 =>
  some (r5.1,r5.2)
 else
  (cz p0.aa).bind fun r6 =>
  (aO (pg) (r6,p1.aa)).bind fun s6bx =>
  (cz s6bx).bind fun r12 =>
  (cv 1 r12).bind fun r13 =>
  (dN true r13).bind fun r14 =>
  some (r14.1,r14.2)
def rR (p0:aq):(Int×Int)->Option ((Int×Int)⊕((Int)⊕(Int×Bool)))
 | (s4b,s19b) =>
  if decide (s19b<(p0.aa.length:Int)) then
   (P.idx p0.aa s19b).bind fun x13 =>
   (if (s19b==3) then
    some (decide (x13>8))
   else
    some false).bind fun s29j4 =>
   if s29j4 then
    some (.inr (.inr (0,false)))
   else
    (tK .u64 (IntKind.u64.wrap x13) (IntKind.i64.wrap (20*s19b))).bind fun x16 =>
    some (.inl (cV .or .u64 s4b x16,IntKind.i64.wrap (s19b+1)))
  else
   some (.inr (.inl s4b))
def rQ (p0:aq):Option (Int×Bool) :=
 (cl p0).bind fun r1 =>
 (if (!r1) then
  some true
 else
  some (decide ((p0.aa.length:Int)>4))).bind fun s15j1 =>
 if s15j1 then
  some (0,false)
 else
  (aO (rR p0) (0,0)).bind fun q=>match q with
  | (.inl s4bx) =>
   (if decide (p0.ah<0) then
    some (decide (s4bx<=9223372036854775808))
   else
    some false).bind fun s38j5 =>
   if s38j5 then
    some (IntKind.i64.wrap (IntKind.u64.wrap (0-s4bx)),true)
   else
    if decide (p0.ah>=0) then
     if decide (s4bx<9223372036854775808) then
      some (IntKind.i64.wrap s4bx,true)
     else
      some (0,false)
    else
     some (0,false)
  | (.inr rb) =>
   some rb
def pE (p0:aq):Option (Bool) :=
 (rQ p0).bind fun r1 =>
 if r1.2 then
  some (r1.1==1)
 else
  some false
def bZ (p0:al):Option (Bool) :=
 (cl p0.aJ).bind fun r1 =>
 (if (!r1) then
  some true
 else
  (cl p0.aL).bind fun r8 =>
  if (!r8) then
   some true
  else
   some (p0.aL.ah != 1)).bind fun s20j1 =>
 if s20j1 then
  some false
 else
  (ou p0.aJ p0.aL).bind fun r4 =>
  if (r4.2==0) then
   (pE r4.1).bind fun r6 =>
   some r6
  else
   some false
def gD (p0:al):Option (Int) :=
 (bZ p0).bind fun r1 =>
 if (!r1) then
  some 0
 else
  some p0.aJ.ah
def vt (p0:(List Int)):(Int)->Option ((Int)⊕((Unit)⊕(Int)))
 | s8a =>
  if decide (s8a<(p0.length:Int)) then
   (P.idx p0 s8a).bind fun x6 =>
   if (x6 != 0) then
    some (.inr (.inr x6))
   else
    some (.inl (IntKind.i64.wrap (s8a+1)))
  else
   some (.inr (.inl ()))
def uc (p0:(List Int)):Option (Int) :=
 (aO (vt p0) 0).bind fun q=>match q with
 | (.inl _) =>
  some 0
 | (.inr ra) =>
  some ra
def lh (p0:fa) (p1:fa):Option (Int) :=
 (eC p0.dq p1.dq).bind fun r1 =>
 (eC p0.lJ p1.lJ).bind fun r2 =>
 (uc ([r1,r2])).bind fun r4 =>
 some r4
def vo:(Int×(List Int))->Option ((Int×(List Int))⊕(((List Int))))
 | (s4b,l5b) =>
  if decide (s4b>0) then
   (iB 8 l5b [IntKind.i64.wrap (cV .and .u64 s4b 1048575)]).bind fun x9 =>
   (nc .u64 s4b 20).bind fun x11 =>
   some (.inl (x11,x9))
  else
   some (.inr l5b)
def tV (p0:Int):Option (aq) :=
 (if decide (p0<0) then
  some ((-1),IntKind.u64.wrap (0-(IntKind.u64.wrap p0)))
 else
  some (1,IntKind.u64.wrap p0)).bind fun q=>match q with
 | (s3j1,s4j1) =>
  (aO (vo) (s4j1,[])).bind fun l5bx =>
  (cv s3j1 l5bx).bind fun r13 =>
  some r13
def fw (p0:Int):Option (al) :=
 (tV p0).bind fun r1 =>
 (tV 1).bind fun r2 =>
 some (al.mk r1 r2)
def ng (p0:aq):Option (aq) :=
 (cl p0).bind fun r1 =>
 if (!r1) then
  some (aq.mk 0 ([]))
 else
  (cz p0.aa).bind fun r3 =>
  (cv (IntKind.i64.wrap (0-p0.ah)) r3).bind fun r4 =>
  some r4
def rS (p0:aq) (p1:aq):Option (aq×Int) :=
 (cl p0).bind fun r1 =>
 (if (!r1) then
  some true
 else
  (cl p1).bind fun r10 =>
  some (!r10)).bind fun s13j1 =>
 if s13j1 then
  (dN false (aq.mk 0 ([]))).bind fun r5 =>
  some (r5.1,r5.2)
 else
  (ow p0.aa p1.aa).bind fun r6 =>
  (cv (IntKind.i64.wrap (p0.ah*p1.ah)) r6).bind fun r7 =>
  (dN true r7).bind fun r8 =>
  some (r8.1,r8.2)
def b6 (p0:aq) (p1:aq):Option (aq) :=
 (rS p0 p1).bind fun r1 =>
 some r1.1
def pj (s0j1:(List Int)) (s1j1:(List Int)):(Int×Int×(List Int))->Option ((Int×Int×(List Int))⊕((Int×(List Int))))
 | (s6b,s22b,l5b) =>
  if decide (s22b<(s0j1.length:Int)) then
   (P.idx s0j1 s22b).bind fun x15 =>
   (if decide (s22b<(s1j1.length:Int)) then
    (P.idx s1j1 s22b).bind fun x22 =>
    some (IntKind.i64.wrap ((IntKind.i64.wrap (s6b+x15))+x22))
   else
    some (IntKind.i64.wrap (s6b+x15))).bind fun s6j4 =>
   (P.idx l5b s22b).bind fun x17 =>
   (nc .i64 s6j4 20).bind fun x19 =>
   some (.inl (x19,IntKind.i64.wrap (s22b+1),(l5b.set (s22b).toNat (cV .and .i64 s6j4 1048575))))
  else
   some (.inr (s6b,l5b))
def p5 (p0:(List Int)) (p1:(List Int)):Option ((List Int)) :=
 (if decide ((p0.length:Int)<(p1.length:Int)) then
  some (p1,p0)
 else
  some (p0,p1)).bind fun q=>match q with
 | (s0j1,s1j1) =>
  (B1 8 (IntKind.i64.wrap ((s0j1.length:Int)+1)) (IntKind.i64.wrap ((s0j1.length:Int)+1)) 0).bind fun x2 =>
  (aO (pj s0j1 s1j1) (0,0,x2)).bind fun q=>match q with
  | (s6bx,l5bx) =>
   (P.idx l5bx (s0j1.length:Int)).bind fun x23 =>
   (dO (l5bx.set ((s0j1.length:Int)).toNat s6bx)).bind fun r26 =>
   some r26
def rY (p1:(List Int)) (r1:(List Int)):(Int×Int×(List Int))->Option ((Int×Int×(List Int))⊕(((List Int))))
 | (s6a,s13a,l5a) =>
  if decide (s13a<((r1).length:Int)) then
   (P.idx l5a s13a).bind fun x12 =>
   (if decide (s13a<(p1.length:Int)) then
    (P.idx p1 s13a).bind fun x18 =>
    some (IntKind.i64.wrap ((IntKind.i64.wrap (x12-s6a))-x18))
   else
    some (IntKind.i64.wrap (x12-s6a))).bind fun s8j3 =>
   (nc .i64 s8j3 20).bind fun x14 =>
   some (.inl (cV .and .i64 x14 1,IntKind.i64.wrap (s13a+1),(l5a.set (s13a).toNat (cV .and .i64 s8j3 1048575))))
  else
   some (.inr l5a)
def oA (p0:(List Int)) (p1:(List Int)):Option ((List Int)) :=
 (cz p0).bind fun r1 =>
 (aO (rY p1 r1) (0,0,r1)).bind fun l5ax =>
 (dO l5ax).bind fun r19 =>
 some r19
def rP (p0:aq) (p1:aq):Option (aq×Int) :=
 (cl p0).bind fun r1 =>
 (if (!r1) then
  some true
 else
  (cl p1).bind fun r21 =>
  some (!r21)).bind fun s13j1 =>
 if s13j1 then
  (dN false (aq.mk 0 ([]))).bind fun r5 =>
  some (r5.1,r5.2)
 else
  if decide ((IntKind.i64.wrap (p0.ah*p1.ah))>=0) then
   (uc ([p0.ah,p1.ah])).bind fun r8 =>
   (p5 p0.aa p1.aa).bind fun r9 =>
   (cv r8 r9).bind fun r10 =>
   (dN true r10).bind fun r11 =>
   some (r11.1,r11.2)
  else
   (eW p0.aa p1.aa).bind fun r12 =>
   if decide (r12<0) then
    (oA p1.aa p0.aa).bind fun r14 =>
    (cv p1.ah r14).bind fun r15 =>
    (dN true r15).bind fun r16 =>
    some (r16.1,r16.2)
   else
    (oA p0.aa p1.aa).bind fun r17 =>
    (cv p0.ah r17).bind fun r18 =>
    (dN true r18).bind fun r19 =>
    some (r19.1,r19.2)
def nf (p0:aq) (p1:aq):Option (aq×aq×Int) :=
 (cl p0).bind fun r1 =>
 (if (!r1) then
  some true
 else
  (cl p1).bind fun r17 =>
  some (!r17)).bind fun s9j1 =>
 if s9j1 then
  some ((aq.mk 0 ([])),(aq.mk 0 ([])),1)
 else
  if (p1.ah==0) then
   some ((aq.mk 0 ([])),(aq.mk 0 ([])),15)
  else
   (p6 p0.aa p1.aa).bind fun r5 =>
   (if decide ((IntKind.i64.wrap (p0.ah*p1.ah))<0) then
    some (decide ((r5.2.length:Int)>0))
   else
    some false).bind fun s44j2 =>
   if s44j2 then
    (p5 r5.1 ([1])).bind fun r9 =>
    (cv (-1) r9).bind fun r10 =>
    (oA p1.aa r5.2).bind fun r11 =>
    (cv p1.ah r11).bind fun r12 =>
    some (r10,r12,0)
   else
    (cv (IntKind.i64.wrap (p0.ah*p1.ah)) r5.1).bind fun r13 =>
    (cv p0.ah r5.2).bind fun r14 =>
    some (r13,r14,0)
def l7 (p0:aq) (p1:aq):Option (al×Int) :=
 (cl p0).bind fun r1 =>
 (if (!r1) then
  some true
 else
  (cl p1).bind fun r13 =>
  some (!r13)).bind fun s14j1 =>
 if s14j1 then
  some ((al.mk (aq.mk 0 ([])) (aq.mk 0 ([]))),1)
 else
  if (p1.ah==0) then
   some ((al.mk (aq.mk 0 ([])) (aq.mk 0 ([]))),15)
  else
   (if decide (p1.ah<0) then
    (ng p0).bind fun r10 =>
    (ng p1).bind fun r11 =>
    some (r10.ah,r10.aa,r11.ah,r11.aa)
   else
    some (p0.ah,p0.aa,p1.ah,p1.aa)).bind fun q=>match q with
   | (r2_0j2,r2_1j2,r3_0j2,r3_1j2) =>
    (ou (aq.mk r2_0j2 r2_1j2) (aq.mk r3_0j2 r3_1j2)).bind fun r6 =>
    (nf (aq.mk r2_0j2 r2_1j2) r6.1).bind fun r7 =>
    (nf (aq.mk r3_0j2 r3_1j2) r6.1).bind fun r8 =>
    some ((al.mk r7.1 r8.1),0)
def l6 (p0:al) (p1:al):Option (al×Int) :=
 (bZ p0).bind fun r1 =>
 (if (!r1) then
  some true
 else
  (bZ p1).bind fun r10 =>
  some (!r10)).bind fun s15j1 =>
 if s15j1 then
  some ((al.mk (aq.mk 0 ([])) (aq.mk 0 ([]))),1)
 else
  (b6 p0.aJ p1.aL).bind fun r4 =>
  (b6 p1.aJ p0.aL).bind fun r5 =>
  (rP r4 r5).bind fun r6 =>
  (b6 p0.aL p1.aL).bind fun r7 =>
  (l7 r6.1 r7).bind fun r8 =>
  some (r8.1,r8.2)
def kG (p0:al) (p1:al):Option (al×Int) :=
 (bZ p0).bind fun r1 =>
 (if (!r1) then
  some true
 else
  (bZ p1).bind fun r7 =>
  some (!r7)).bind fun s13j1 =>
 if s13j1 then
  some ((al.mk (aq.mk 0 ([])) (aq.mk 0 ([]))),1)
 else
  (ng p1.aJ).bind fun r4 =>
  (l6 p0 (al.mk r4 p1.aL)).bind fun r5 =>
  some (r5.1,r5.2)
def mi (x1:(List al)):(Int×(List al))->Option ((Int×(List al))⊕(((List al))))
 | (s12a,l3a) =>
  if decide (s12a<((x1).length:Int)) then
   (fw 1).bind fun r9 =>
   (P.idx l3a s12a).bind fun x10 =>
   some (.inl (IntKind.i64.wrap (s12a+1),(l3a.set (s12a).toNat r9)))
  else
   some (.inr l3a)
def mj (p0:de):(Int×(List al))->Option ((Int×(List al))⊕(((List al))))
 | (s23b,l3b) =>
  if decide (s23b<(p0.aw.length:Int)) then
   (P.idx p0.aw s23b).bind fun x19 =>
   (P.idx l3b x19.dq).bind fun x20 =>
   (kG x20 x19.bR).bind fun r21 =>
   some (.inl (IntKind.i64.wrap (s23b+1),(l3b.set (x19.dq).toNat r21.1)))
  else
   some (.inr l3b)
def lC (p0:de):Option ((List al)) :=
 (B1 64 p0.aG p0.aG (al.mk (aq.mk 0 ([])) (aq.mk 0 ([])))).bind fun x1 =>
 (aO (mi x1) (0,x1)).bind fun l3ax =>
 (aO (mj p0) (0,l3ax)).bind fun l3bx =>
 some l3bx
def lB (p0:al):Option (Bool) :=
 (gD p0).bind fun r1 =>
 some (decide (r1<0))
def cW (p0:(List al)):(Int)->Option ((Int)⊕((Unit)⊕(Int)))
 | s8a =>
  if decide (s8a<(p0.length:Int)) then
   (P.idx p0 s8a).bind fun x7 =>
   (lB x7).bind fun r8 =>
   if r8 then
    some (.inr (.inr s8a))
   else
    some (.inl (IntKind.i64.wrap (s8a+1)))
  else
   some (.inr (.inl ()))
def b7 (p0:(List al)):Option (Int) :=
 (aO (cW p0) 0).bind fun q=>match q with
 | (.inl _) =>
  some (-1)
 | (.inr ra) =>
  some ra
def bt (p0:(List al)):Option (Bool) :=
 (b7 p0).bind fun r1 =>
 some (decide (r1>=0))
def mh (p0:de):(Int)->Option ((Int)⊕((Unit)⊕(Bool)))
 | s18b =>
  if decide (s18b<(p0.aw.length:Int)) then
   (P.idx p0.aw s18b).bind fun x21 =>
   (gU x21.dq 0 (IntKind.i64.wrap (p0.aG-1))).bind fun r22 =>
   (if (!r22) then
    some true
   else
    (gU x21.lJ 0 (IntKind.i64.wrap (p0.aG-1))).bind fun r30 =>
    if (!r30) then
     some true
    else
     (bZ x21.bR).bind fun r32 =>
     if (!r32) then
      some true
     else
      (gD x21.bR).bind fun r34 =>
      some (decide (r34<=0))).bind fun s50j4 =>
   if s50j4 then
    some (.inr (.inr false))
   else
    if decide (s18b>0) then
     (P.idx p0.aw (IntKind.i64.wrap (s18b-1))).bind fun x26 =>
     (lh x26 x21).bind fun r27 =>
     if decide (r27>=0) then
      some (.inr (.inr false))
     else
      some (.inl (IntKind.i64.wrap (s18b+1)))
    else
     some (.inl (IntKind.i64.wrap (s18b+1)))
  else
   some (.inr (.inl ()))
def lA (p0:de):Option (Bool) :=
 (gU p0.aG 0 2000).bind fun r1 =>
 (if (!r1) then
  some true
 else
  some (decide ((p0.aw.length:Int)>8000))).bind fun s14j1 =>
 if s14j1 then
  some false
 else
  (aO (mh p0) 0).bind fun q=>match q with
  | (.inl _) =>
   (lC p0).bind fun r35 =>
   (bt r35).bind fun r36 =>
   some (!r36)
  | (.inr rb) =>
   some rb
def gG (p0:al):Option (Bool) :=
 (bZ p0).bind fun r1 =>
 some (!r1)
def cp (p0:(List al)):(Int)->Option ((Int)⊕((Unit)⊕(Int)))
 | s8a =>
  if decide (s8a<(p0.length:Int)) then
   (P.idx p0 s8a).bind fun x7 =>
   (gG x7).bind fun r8 =>
   if r8 then
    some (.inr (.inr s8a))
   else
    some (.inl (IntKind.i64.wrap (s8a+1)))
  else
   some (.inr (.inl ()))
def bN (p0:(List al)):Option (Int) :=
 (aO (cp p0) 0).bind fun q=>match q with
 | (.inl _) =>
  some (-1)
 | (.inr ra) =>
  some ra
def bx (p0:(List al)):Option (Bool) :=
 (bN p0).bind fun r1 =>
 some (decide (r1>=0))
def gV (p0:(List al)) (p1:Int):Option (Bool) :=
 if ((p0.length:Int)==p1) then
  (bx p0).bind fun r2 =>
  some (!r2)
 else
  some false
def kd (p0:de):(Int×(List (List Int)))->Option ((Int×(List (List Int)))⊕(((List (List Int)))))
 | (s22a,l18a) =>
  if decide (s22a<(p0.aw.length:Int)) then
   (P.idx p0.aw s22a).bind fun x13 =>
   (P.idx l18a x13.lJ).bind fun x14 =>
   (iB 8 x14 [x13.dq]).bind fun x15 =>
   some (.inl (IntKind.i64.wrap (s22a+1),(l18a.set (x13.lJ).toNat x15)))
  else
   some (.inr l18a)
def ke (r20:(List al)):(Int×(List Int)×(List Int))->Option ((Int×(List Int)×(List Int))⊕(((List Int)×(List Int))))
 | (s46b,l6b,l7b) =>
  if decide (s46b<(r20.length:Int)) then
   (P.idx r20 s46b).bind fun x33 =>
   (P.idx l6b s46b).bind fun x34 =>
   (gD x33).bind fun r36 =>
   if decide (r36>0) then
    (P.idx (l6b.set (s46b).toNat (-1)) s46b).bind fun x38 =>
    (iB 8 l7b [s46b]).bind fun x40 =>
    some (.inl (IntKind.i64.wrap (s46b+1),((l6b.set (s46b).toNat (-1)).set (s46b).toNat 0),x40))
   else
    some (.inl (IntKind.i64.wrap (s46b+1),(l6b.set (s46b).toNat (-1)),l7b))
  else
   some (.inr (l6b,l7b))
def kg (x66:Int) (x69:(List Int)):(Int×(List Int)×(List Int))->Option ((Int×(List Int)×(List Int))⊕(((List Int)×(List Int))))
 | (s78e,l6e,l7e) =>
  if decide (s78e<((x69).length:Int)) then
   (P.idx x69 s78e).bind fun x80 =>
   (P.idx l6e x80).bind fun x81 =>
   if (x81==(-1)) then
    (P.idx l6e x66).bind fun x83 =>
    (iB 8 l7e [x80]).bind fun x85 =>
    some (.inl (IntKind.i64.wrap (s78e+1),(l6e.set (x80).toNat (IntKind.i64.wrap (x83+1))),x85))
   else
    some (.inl (IntKind.i64.wrap (s78e+1),l6e,l7e))
  else
   some (.inr (l6e,l7e))
def kf (l18ax:(List (List Int))):((List Int)×(List Int))->Option (((List Int)×(List Int))⊕(((List Int))))
 | (l6c,l7c) =>
  if decide (((l7c).length:Int)>0) then
   (P.idx l7c 0).bind fun x66 =>
   (BT l7c 1 (l7c.length:Int)).bind fun x67 =>
   (P.idx l18ax x66).bind fun x69 =>
   (aO (kg x66 x69) (0,l6c,x67)).bind fun q=>match q with
   | (l6ex,l7ex) =>
    some (.inl (l6ex,l7ex))
  else
   some (.inr l6c)
def kc (p0:de):Option ((List Int)) :=
 (lA p0).bind fun r1 =>
 if (!r1) then
  some ([])
 else
  (B1 24 p0.aG p0.aG ([])).bind fun x3 =>
  (aO (kd p0) (0,x3)).bind fun l18ax =>
  (B1 8 p0.aG p0.aG 0).bind fun x18 =>
  (lC p0).bind fun r20 =>
  (aO (ke r20) (0,x18,[])).bind fun q=>match q with
  | (l6bx,l7bx) =>
   (aO (kf l18ax) (l6bx,l7bx)).bind fun l6cx =>
   some l6cx
def im (r1:(List Int)):(Int×(List Int))->Option ((Int×(List Int))⊕(((List Int))))
 | (s9a,l3a) =>
  if decide (s9a<(r1.length:Int)) then
   (P.idx r1 s9a).bind fun x9 =>
   if (x9==(-1)) then
    (iB 8 l3a [s9a]).bind fun x11 =>
    some (.inl (IntKind.i64.wrap (s9a+1),x11))
   else
    some (.inl (IntKind.i64.wrap (s9a+1),l3a))
  else
   some (.inr l3a)
def iI (p0:de):Option ((List Int)) :=
 (kc p0).bind fun r1 =>
 (aO (im r1) (0,[])).bind fun l3ax =>
 some l3ax
def fZ (p1:(List al)) (x1:(List az)):(Int×(List az))->Option ((Int×(List az))⊕(((List az))))
 | (s14a,l11a) =>
  if decide (s14a<((x1).length:Int)) then
   (P.idx p1 s14a).bind fun x10 =>
   (P.idx l11a s14a).bind fun x11 =>
   some (.inl (IntKind.i64.wrap (s14a+1),(l11a.set (s14a).toNat (az.mk x10 x11.bA))))
  else
   some (.inr l11a)
def gf (p0:de):(Int×(List az))->Option ((Int×(List az))⊕(((List az))))
 | (s29b,l11b) =>
  if decide (s29b<(p0.aw.length:Int)) then
   (P.idx p0.aw s29b).bind fun x24 =>
   (P.idx l11b x24.lJ).bind fun x25 =>
   (iB 72 x25.bA [(dH.mk x24.dq x24.bR)]).bind fun x27 =>
   some (.inl (IntKind.i64.wrap (s29b+1),(l11b.set (x24.lJ).toNat (az.mk x25.aX x27))))
  else
   some (.inr l11b)
def eD (p0:de) (p1:(List al)):Option ((List az)) :=
 (B1 88 p0.aG p0.aG (az.mk (al.mk (aq.mk 0 ([])) (aq.mk 0 ([]))) ([]))).bind fun x1 =>
 (aO (fZ p1 x1) (0,x1)).bind fun l11ax =>
 (aO (gf p0) (0,l11ax)).bind fun l11bx =>
 some l11bx
def cj (p0:dH) (p1:Int):Option (Int) :=
 (eC p0.l5 p1).bind fun r1 =>
 some r1
def bC (p0:(List dH)) (p1:Int):(Int×Int)->Option ((Int×Int)⊕((Int)))
 | (s9a,s10a) =>
  if decide (s9a<s10a) then
   (nc .u64 (IntKind.u64.wrap (IntKind.i64.wrap (s9a+s10a))) 1).bind fun x9 =>
   (P.idx p0 (IntKind.i64.wrap x9)).bind fun x11 =>
   (cj x11 p1).bind fun r12 =>
   if decide (r12<0) then
    some (.inl (IntKind.i64.wrap ((IntKind.i64.wrap x9)+1),s10a))
   else
    some (.inl (s9a,IntKind.i64.wrap x9))
  else
   some (.inr s9a)
def aS (p0:(List dH)) (p1:Int):Option (Int×Bool) :=
 (aO (bC p0 p1) (0,(p0.length:Int))).bind fun s9ax =>
 if decide (s9ax<(p0.length:Int)) then
  (P.idx p0 s9ax).bind fun x15 =>
  (cj x15 p1).bind fun r16 =>
  some (s9ax,(r16==0))
 else
  some (s9ax,false)
def ck (p0:az) (p1:Int):Option (az×(Int×Bool)) :=
 (aS p0.bA p1).bind fun r1 =>
 some (p0,(r1.1,r1.2))
def fP (p0:(List dH)) (p1 p2:Int):Option (List dH):=WL p0 p1 p2
def jL (p0:al) (p1:al):Option (al×Int) :=
 (bZ p0).bind fun r1 =>
 (if (!r1) then
  some true
 else
  (bZ p1).bind fun r9 =>
  some (!r9)).bind fun s6j1 =>
 if s6j1 then
  some ((al.mk (aq.mk 0 ([])) (aq.mk 0 ([]))),1)
 else
  if (p1.aJ.ah==0) then
   some ((al.mk (aq.mk 0 ([])) (aq.mk 0 ([]))),15)
  else
   (b6 p0.aJ p1.aL).bind fun r5 =>
   (b6 p0.aL p1.aJ).bind fun r6 =>
   (l7 r5 r6).bind fun r7 =>
   some (r7.1,r7.2)
def dP (r8:al×Int) (r10:(List dH)):(Int×(List dH))->Option ((Int×(List dH))⊕(((List dH))))
 | (s58a,r0_4a) =>
  if decide (s58a<((r10).length:Int)) then
   (P.idx r0_4a s58a).bind fun x21 =>
   (jL x21.dW r8.1).bind fun r23 =>
   some (.inl (IntKind.i64.wrap (s58a+1),(r0_4a.set (s58a).toNat (dH.mk x21.l5 r23.1))))
  else
   some (.inr r0_4a)
def cY (p0:az) (p1:Int):Option (az×(Unit)) :=
 (ck p0 p1).bind fun r2 =>
 if (!r2.2.2) then
  some (r2.1,())
 else
  (fw 1).bind fun r5 =>
  (P.idx r2.1.bA r2.2.1).bind fun x6 =>
  (kG r5 x6.dW).bind fun r8 =>
  (fP r2.1.bA r2.2.1 (IntKind.i64.wrap (r2.2.1+1))).bind fun r10 =>
  (jL r2.1.aX r8.1).bind fun r12 =>
  (aO (dP r8 r10) (0,r10)).bind fun r0_4ax =>
  some ((az.mk r12.1 r0_4ax),())
def pD (p0:al) (p1:al):Option (al×Int) :=
 (bZ p0).bind fun r1 =>
 (if (!r1) then
  some true
 else
  (bZ p1).bind fun r8 =>
  some (!r8)).bind fun s13j1 =>
 if s13j1 then
  some ((al.mk (aq.mk 0 ([])) (aq.mk 0 ([]))),1)
 else
  (b6 p0.aJ p1.aJ).bind fun r4 =>
  (b6 p0.aL p1.aL).bind fun r5 =>
  (l7 r4 r5).bind fun r6 =>
  some (r6.1,r6.2)
def gg (p0:al) (p1:al) (p2:al):Option (al) :=
 (pD p1 p2).bind fun r1 =>
 (l6 p0 r1.1).bind fun r2 =>
 some r2.1
def dJ (p0:az) (p1:Int) (p2:al):Option (az×(Unit)) :=
 (ck p0 p1).bind fun r2 =>
 if r2.2.2 then
  (P.idx r2.1.bA r2.2.1).bind fun x5 =>
  (fw 1).bind fun r7 =>
  (gg x5.dW p2 r7).bind fun r8 =>
  some ((az.mk r2.1.aX (r2.1.bA.set (r2.2.1).toNat (dH.mk x5.l5 r8))),())
 else
  (Xt 72 r2.1.bA r2.2.1 [(dH.mk p1 p2)]).bind fun x11 =>
  some ((az.mk r2.1.aX x11),())
def eJ (p2:az) (x5:dH):(Int×Int×(List Int)×Int×(List Int)×(List dH))->Option ((Int×Int×(List Int)×Int×(List Int)×(List dH))⊕((Int×(List Int)×Int×(List Int)×(List dH))))
 | (s52a,r0_0a,r0_1a,r0_2a,r0_3a,r0_4a) =>
  if decide (s52a<(p2.bA.length:Int)) then
   (P.idx p2.bA s52a).bind fun x20 =>
   (fw 0).bind fun r21 =>
   (gg r21 x5.dW x20.dW).bind fun r22 =>
   (dJ (az.mk (al.mk (aq.mk r0_0a r0_1a) (aq.mk r0_2a r0_3a)) r0_4a) x20.l5 r22).bind fun r24 =>
   some (.inl (IntKind.i64.wrap (s52a+1),r24.1.aX.aJ.ah,r24.1.aX.aJ.aa,r24.1.aX.aL.ah,r24.1.aX.aL.aa,r24.1.bA))
  else
   some (.inr (r0_0a,r0_1a,r0_2a,r0_3a,r0_4a))
def dK (p0:az) (p1:Int) (p2:az):Option (az×(Unit)) :=
 (ck p0 p1).bind fun r2 =>
 if (!r2.2.2) then
  some (r2.1,())
 else
  (P.idx r2.1.bA r2.2.1).bind fun x5 =>
  (fP r2.1.bA r2.2.1 (IntKind.i64.wrap (r2.2.1+1))).bind fun r8 =>
  (gg r2.1.aX x5.dW p2.aX).bind fun r10 =>
  (aO (eJ p2 x5) (0,r10.aJ.ah,r10.aJ.aa,r10.aL.ah,r10.aL.aa,r8)).bind fun q=>match q with
  | (r0_0ax,r0_1ax,r0_2ax,r0_3ax,r0_4ax) =>
   some ((az.mk (al.mk (aq.mk r0_0ax r0_1ax) (aq.mk r0_2ax r0_3ax)) r0_4ax),())
def lG (s35b:Int):(Int×(List (Bool×az)))->Option ((Int×(List (Bool×az)))⊕(((List (Bool×az)))))
 | (s8d,l32d) =>
  if decide (s8d<((l32d).length:Int)) then
   (P.idx l32d s8d).bind fun x50 =>
   (P.idx l32d s35b).bind fun x51 =>
   (O4 x51).bind fun x52 =>
   (OC x50).bind fun x54 =>
   (dK x54 s35b x52).bind fun r56 =>
   some (.inl (IntKind.i64.wrap (s8d+1),(l32d.set (s8d).toNat (false,r56.1))))
  else
   some (.inr l32d)
def jX (r6:(List az)):(Int×(List (Bool×az)))->Option ((Int×(List (Bool×az)))⊕(((List (Bool×az)))))
 | (s35b,l32b) =>
  if decide (s35b<((r6).length:Int)) then
   (P.idx l32b s35b).bind fun x34 =>
   (OC x34).bind fun x35 =>
   (cY x35 s35b).bind fun r37 =>
   (aO (lG s35b) (IntKind.i64.wrap (s35b+1),(l32b.set (s35b).toNat (true,r37.1)))).bind fun l32dx =>
   some (.inl (IntKind.i64.wrap (s35b+1),l32dx))
  else
   some (.inr l32b)
def nU (l9e:(List al)) (x81:az):(Int×Int×(List Int)×Int×(List Int))->Option ((Int×Int×(List Int)×Int×(List Int))⊕((Int×(List Int)×Int×(List Int))))
 | (s85g,r11_0g,r11_1g,r11_2g,r11_3g) =>
  if decide (s85g<(x81.bA.length:Int)) then
   (P.idx x81.bA s85g).bind fun x92 =>
   (P.idx l9e x92.l5).bind fun x93 =>
   (gg (al.mk (aq.mk r11_0g r11_1g) (aq.mk r11_2g r11_3g)) x92.dW x93).bind fun r94 =>
   some (.inl (IntKind.i64.wrap (s85g+1),r94.aJ.ah,r94.aJ.aa,r94.aL.ah,r94.aL.aa))
  else
   some (.inr (r11_0g,r11_1g,r11_2g,r11_3g))
def jY (l32bx:(List (Bool×az))):(Int×(List al))->Option ((Int×(List al))⊕(((List al))))
 | (s10e,l9e) =>
  if decide (s10e>=0) then
   (P.idx l32bx s10e).bind fun x80 =>
   (O4 x80).bind fun x81 =>
   (fw 0).bind fun r83 =>
   (gg x81.aX r83 r83).bind fun r84 =>
   (aO (nU l9e x81) (0,r84.aJ.ah,r84.aJ.aa,r84.aL.ah,r84.aL.aa)).bind fun q=>match q with
   | (r11_0gx,r11_1gx,r11_2gx,r11_3gx) =>
    (P.idx l9e s10e).bind fun x95 =>
    some (.inl (IntKind.i64.wrap (s10e-1),(l9e.set (s10e).toNat (al.mk (aq.mk r11_0gx r11_1gx) (aq.mk r11_2gx r11_3gx)))))
  else
   some (.inr l9e)
def iA (p0:de) (p1:(List al)):Option ((List al)×Int) :=
 (lA p0).bind fun r1 =>
 (if (!r1) then
  some true
 else
  (gV p1 p0.aG).bind fun r98 =>
  some (!r98)).bind fun s14j1 =>
 if s14j1 then
  some ([],1)
 else
  (iI p0).bind fun r4 =>
  if decide ((r4.length:Int)>0) then
   some ([],24)
  else
   (eD p0 p1).bind fun r6 =>
   (aO (jX r6) (0,(Hl r6))).bind fun l32bx =>
   (B1 64 p0.aG p0.aG (al.mk (aq.mk 0 ([])) (aq.mk 0 ([])))).bind fun x58 =>
   (aO (jY l32bx) (IntKind.i64.wrap (((l32bx).length:Int)-1),x58)).bind fun l9ex =>
   some (l9ex,0)
def my (p0:aq) (p1:aq):(Int)->Option ((Int)⊕((Unit)⊕(Bool)))
 | s5b =>
  if decide (s5b<(p0.aa.length:Int)) then
   (P.idx p0.aa s5b).bind fun x9 =>
   (P.idx p1.aa s5b).bind fun x10 =>
   if (x9 != x10) then
    some (.inr (.inr false))
   else
    some (.inl (IntKind.i64.wrap (s5b+1)))
  else
   some (.inr (.inl ()))
def iL (p0:aq) (p1:aq):Option (Bool) :=
 (if (p0.ah != p1.ah) then
  some true
 else
  some ((p0.aa.length:Int) != (p1.aa.length:Int))).bind fun s19j1 =>
 if s19j1 then
  some false
 else
  (aO (my p0 p1) 0).bind fun q=>match q with
  | (.inl _) =>
   some true
  | (.inr rb) =>
   some rb
def mw (p0:al) (p1:al):Option (Bool) :=
 (iL p0.aJ p1.aJ).bind fun r1 =>
 if r1 then
  (iL p0.aL p1.aL).bind fun r3 =>
  some r3
 else
  some false
def nD (p0:aq) (p1:aq):Option (Int) :=
 (cl p0).bind fun r1 =>
 (if (!r1) then
  some true
 else
  (cl p1).bind fun r8 =>
  some (!r8)).bind fun s12j1 =>
 if s12j1 then
  some 0
 else
  if (p0.ah != p1.ah) then
   (eC p0.ah p1.ah).bind fun r5 =>
   some r5
  else
   (eW p0.aa p1.aa).bind fun r6 =>
   some (IntKind.i64.wrap (p0.ah*r6))
def j6 (p0:al) (p1:al):Option (Int) :=
 (bZ p0).bind fun r1 =>
 (if (!r1) then
  some true
 else
  (bZ p1).bind fun r8 =>
  some (!r8)).bind fun s12j1 =>
 if s12j1 then
  some 0
 else
  (b6 p0.aJ p1.aL).bind fun r4 =>
  (b6 p1.aJ p0.aL).bind fun r5 =>
  (nD r4 r5).bind fun r6 =>
  some r6
def qA (p0:al) (p1:Int):Option (Bool) :=
 if decide ((p0.aJ.aa.length:Int)<=p1) then
  some (decide ((p0.aL.aa.length:Int)<=p1))
 else
  some false
def nB (p0:de):(Int)->Option ((Int)⊕((Unit)⊕(Bool)))
 | s3a =>
  (if decide (s3a<(p0.aw.length:Int)) then
   some (decide (s3a<40))
  else
   some false).bind fun s12j3 =>
  if s12j3 then
   (P.idx p0.aw s3a).bind fun x10 =>
   (qA x10.bR 6).bind fun r11 =>
   if (!r11) then
    some (.inr (.inr false))
   else
    some (.inl (IntKind.i64.wrap (s3a+1)))
  else
   some (.inr (.inl ()))
def ll (p0:de):Option (Bool) :=
 (aO (nB p0) 0).bind fun q=>match q with
 | (.inl _) =>
  if decide (p0.aG<=12) then
   some (decide ((p0.aw.length:Int)<=40))
  else
   if decide (p0.aG>2000) then
    some (decide ((p0.aw.length:Int)<=40))
   else
    some false
 | (.inr ra) =>
  some ra
def sN (p0:(List al)) (p1:Int):(Int)->Option ((Int)⊕((Unit)⊕(Bool)))
 | s5a =>
  (if decide (s5a<(p0.length:Int)) then
   some (decide (s5a<=14))
  else
   some false).bind fun s13j3 =>
  if s13j3 then
   (P.idx p0 s5a).bind fun x10 =>
   (qA x10 p1).bind fun r11 =>
   if (!r11) then
    some (.inr (.inr false))
   else
    some (.inl (IntKind.i64.wrap (s5a+1)))
  else
   some (.inr (.inl ()))
def qB (p0:(List al)) (p1:Int):Option (Bool) :=
 (aO (sN p0 p1) 0).bind fun q=>match q with
 | (.inl _) =>
  some (decide ((p0.length:Int)<=14))
 | (.inr ra) =>
  some ra
def ja (p0:de):(Int×(List Bool))->Option ((Int×(List Bool))⊕(((List Bool))))
 | (s18f,l16f) =>
  if decide (s18f<(p0.aw.length:Int)) then
   (P.idx p0.aw s18f).bind fun x49 =>
   (P.idx l16f x49.dq).bind fun x50 =>
   if x50 then
    (P.idx l16f x49.lJ).bind fun x52 =>
    some (.inl (IntKind.i64.wrap (s18f+1),(l16f.set (x49.lJ).toNat true)))
   else
    some (.inl (IntKind.i64.wrap (s18f+1),l16f))
  else
   some (.inr l16f)
def iZ (p0:de) (p1:(List al)):(Int×(List Bool))->Option ((Int×(List Bool))⊕(((List Bool))))
 | (s17d,l16d) =>
  if decide (s17d<(p1.length:Int)) then
   (aO (ja p0) (0,l16d)).bind fun l16fx =>
   some (.inl (IntKind.i64.wrap (s17d+1),l16fx))
  else
   some (.inr l16d)
def A3 (p0:(List Int)):(Int×(List al))->Option ((Int×(List al))⊕(((List al))))
 | (s4a,l3a) =>
  if decide (s4a<(p0.length:Int)) then
   (P.idx p0 s4a).bind fun x8 =>
   (y3 x8).bind fun r9 =>
   (iB 64 l3a [r9]).bind fun x10 =>
   some (.inl (IntKind.i64.wrap (s4a+1),x10))
  else
   some (.inr l3a)
def rf (p0:(List Int)):Option ((List al)) :=
 (aO (A3 p0) (0,[])).bind fun l3ax =>
 some l3ax
def jc (p0:Int):Option (Int) :=
 (if decide (p0>=4294967296) then
  (nc .u64 p0 32).bind fun x14 =>
  some (x14,32)
 else
  some (p0,0)).bind fun q=>match q with
 | (s0j1,s2j1) =>
  (if decide (s0j1>=65536) then
   (nc .u64 s0j1 16).bind fun x11 =>
   some (x11,IntKind.i64.wrap (s2j1+16))
  else
   some (s0j1,s2j1)).bind fun q=>match q with
  | (s0j2,s2j2) =>
   if decide (s0j2>=256) then
    (nc .u64 s0j2 8).bind fun x4 =>
    (P.aaa acx (IntKind.u8.wrap x4)).bind fun x6 =>
    some (IntKind.i64.wrap ((IntKind.i64.wrap (s2j2+8))+(IntKind.i64.wrap x6)))
   else
    (P.aaa acx (IntKind.u8.wrap s0j2)).bind fun x8 =>
    some (IntKind.i64.wrap (s2j2+(IntKind.i64.wrap x8)))
def jl (p0:Int):Option (Int) :=
 (jc p0).bind fun r1 =>
 some r1
def kQ (p0:(List al)):(Int)->Option ((Int)⊕((Unit)⊕(Bool)))
 | s7a =>
  if decide (s7a<(p0.length:Int)) then
   (P.idx p0 s7a).bind fun x7 =>
   (bZ x7).bind fun r8 =>
   if (!r8) then
    some (.inr (.inr false))
   else
    some (.inl (IntKind.i64.wrap (s7a+1)))
  else
   some (.inr (.inl ()))
def fC (p0:(List al)):Option (Bool) :=
 (aO (kQ p0) 0).bind fun q=>match q with
 | (.inl _) =>
  some true
 | (.inr ra) =>
  some ra
def fB (p0:(List al)):Option (Int×Bool) :=
 (jl (IntKind.u64.wrap (p0.length:Int))).bind fun r1 =>
 if decide ((IntKind.i64.wrap (r1-1))<0) then
  some (0,false)
 else
  if decide ((IntKind.i64.wrap (r1-1))>8) then
   some (0,false)
  else
   (tK .i64 1 (IntKind.i64.wrap (r1-1))).bind fun x4 =>
   if ((p0.length:Int) != x4) then
    some (0,false)
   else
    (fC p0).bind fun r7 =>
    if (!r7) then
     some (0,false)
    else
     some (IntKind.i64.wrap (r1-1),true)
def fU (p0:al) (p1:al):Option (al) :=
 (kG p0 p1).bind fun r1 =>
 some r1.1
def iO (p0:al) (p1:al):Option (al) :=
 (l6 p0 p1).bind fun r1 =>
 some r1.1
def eH (p0:Int):Option (Int) :=
 (nc .u64 p0 1).bind fun x1 =>
 (nc .u64 (IntKind.u64.wrap ((cV .and .u64 x1 6148914691236517205)+(cV .and .u64 p0 6148914691236517205))) 2).bind fun x3 =>
 (nc .u64 (IntKind.u64.wrap ((cV .and .u64 x3 3689348814741910323)+(cV .and .u64 (IntKind.u64.wrap ((cV .and .u64 x1 6148914691236517205)+(cV .and .u64 p0 6148914691236517205))) 3689348814741910323))) 4).bind fun x5 =>
 (nc .u64 (cV .and .u64 (IntKind.u64.wrap (x5+(IntKind.u64.wrap ((cV .and .u64 x3 3689348814741910323)+(cV .and .u64 (IntKind.u64.wrap ((cV .and .u64 x1 6148914691236517205)+(cV .and .u64 p0 6148914691236517205))) 3689348814741910323))))) 1085102592571150095) 8).bind fun x7 =>
 (nc .u64 (IntKind.u64.wrap ((cV .and .u64 (IntKind.u64.wrap (x5+(IntKind.u64.wrap ((cV .and .u64 x3 3689348814741910323)+(cV .and .u64 (IntKind.u64.wrap ((cV .and .u64 x1 6148914691236517205)+(cV .and .u64 p0 6148914691236517205))) 3689348814741910323))))) 1085102592571150095)+x7)) 16).bind fun x9 =>
 (nc .u64 (IntKind.u64.wrap ((IntKind.u64.wrap ((cV .and .u64 (IntKind.u64.wrap (x5+(IntKind.u64.wrap ((cV .and .u64 x3 3689348814741910323)+(cV .and .u64 (IntKind.u64.wrap ((cV .and .u64 x1 6148914691236517205)+(cV .and .u64 p0 6148914691236517205))) 3689348814741910323))))) 1085102592571150095)+x7))+x9)) 32).bind fun x11 =>
 some (cV .and .i64 (IntKind.i64.wrap (IntKind.u64.wrap ((IntKind.u64.wrap ((IntKind.u64.wrap ((cV .and .u64 (IntKind.u64.wrap (x5+(IntKind.u64.wrap ((cV .and .u64 x3 3689348814741910323)+(cV .and .u64 (IntKind.u64.wrap ((cV .and .u64 x1 6148914691236517205)+(cV .and .u64 p0 6148914691236517205))) 3689348814741910323))))) 1085102592571150095)+x7))+x9))+x11))) 127)
def ey (p0:Int):Option (Int) :=
 (eH p0).bind fun r1 =>
 some r1
def fv (r1:Int×Bool) (s6a:Int) (l5a:(List al)):(Int×Int×(List Int)×Int×(List Int))->Option ((Int×Int×(List Int)×Int×(List Int))⊕((Int×(List Int)×Int×(List Int))))
 | (s37c,r7_0c,r7_1c,r7_2c,r7_3c) =>
  if decide (s37c<r1.1) then
   (tK .i64 1 s37c).bind fun x46 =>
   if ((cV .and .i64 s6a x46) != 0) then
    (P.idx l5a (cV .andNot .i64 s6a x46)).bind fun x50 =>
    (iO (al.mk (aq.mk r7_0c r7_1c) (aq.mk r7_2c r7_3c)) x50).bind fun r51 =>
    some (.inl (IntKind.i64.wrap (s37c+1),r51.aJ.ah,r51.aJ.aa,r51.aL.ah,r51.aL.aa))
   else
    some (.inl (IntKind.i64.wrap (s37c+1),r7_0c,r7_1c,r7_2c,r7_3c))
  else
   some (.inr (r7_0c,r7_1c,r7_2c,r7_3c))
def g9 (p0:(List al)) (r1:Int×Bool):(Int×(List al))->Option ((Int×(List al))⊕(((List al))))
 | (s6a,l5a) =>
  if decide (s6a<(p0.length:Int)) then
   (P.idx p0 s6a).bind fun x34 =>
   (P.idx p0 0).bind fun x35 =>
   (fU x34 x35).bind fun r36 =>
   (aO (fv r1 s6a l5a) (0,r36.aJ.ah,r36.aJ.aa,r36.aL.ah,r36.aL.aa)).bind fun q=>match q with
   | (r7_0cx,r7_1cx,r7_2cx,r7_3cx) =>
    (ey (IntKind.u64.wrap s6a)).bind fun r52 =>
    (fw r52).bind fun r53 =>
    (jL (al.mk (aq.mk r7_0cx r7_1cx) (aq.mk r7_2cx r7_3cx)) r53).bind fun r54 =>
    (P.idx l5a s6a).bind fun x55 =>
    some (.inl (IntKind.i64.wrap (s6a+1),(l5a.set (s6a).toNat r54.1)))
  else
   some (.inr l5a)
def df (p0:(List al)):Option ((List al)) :=
 (fB p0).bind fun r1 =>
 if (!r1.2) then
  some ([])
 else
  (B1 64 (p0.length:Int) (p0.length:Int) (al.mk (aq.mk 0 ([])) (aq.mk 0 ([])))).bind fun x3 =>
  (fw 0).bind fun r5 =>
  (P.idx x3 0).bind fun x6 =>
  (aO (g9 p0 r1) (1,(x3.set (0:Int).toNat r5))).bind fun l5ax =>
  some l5ax
def j2 (p0:(List al)) (r1:Int×Bool) (r3:(List al)):(Int×(List al))->Option ((Int×(List al))⊕(((List al))))
 | (s23a,l8a) =>
  if decide (s23a<r1.1) then
   (P.idx r3 (IntKind.i64.wrap ((p0.length:Int)-1))).bind fun x14 =>
   (tK .i64 1 s23a).bind fun x15 =>
   (P.idx r3 (cV .andNot .i64 (IntKind.i64.wrap ((p0.length:Int)-1)) x15)).bind fun x17 =>
   (fU x14 x17).bind fun r18 =>
   (iB 64 l8a [r18]).bind fun x19 =>
   some (.inl (IntKind.i64.wrap (s23a+1),x19))
  else
   some (.inr l8a)
def eQ (p0:(List al)):Option ((List al)×Int) :=
 (fB p0).bind fun r1 =>
 if (!r1.2) then
  some ([],1)
 else
  (df p0).bind fun r3 =>
  (aO (j2 p0 r1 r3) (0,[])).bind fun l8ax =>
  some (l8ax,0)
def wT (p0:(List Int)):(Int×(List al))->Option ((Int×(List al))⊕(((List al))))
 | (s4a,l3a) =>
  if decide (s4a<(p0.length:Int)) then
   (P.idx p0 s4a).bind fun x8 =>
   (Af x8 2).bind fun r9 =>
   (iB 64 l3a [r9.1]).bind fun x10 =>
   some (.inl (IntKind.i64.wrap (s4a+1),x10))
  else
   some (.inr l3a)
def mV (p0:(List Int)):Option ((List al)) :=
 (aO (wT p0) (0,[])).bind fun l3ax =>
 some l3ax
def tn (p0:(List al)) (p1:(List al)):(Int)->Option ((Int)⊕((Unit)⊕(Bool)))
 | s5a =>
  if decide (s5a<(p0.length:Int)) then
   (P.idx p0 s5a).bind fun x9 =>
   (P.idx p1 s5a).bind fun x10 =>
   (mw x9 x10).bind fun r11 =>
   if (!r11) then
    some (.inr (.inr false))
   else
    some (.inl (IntKind.i64.wrap (s5a+1)))
  else
   some (.inr (.inl ()))
def kj (p0:(List al)) (p1:(List al)):Option (Bool) :=
 if ((p0.length:Int) != (p1.length:Int)) then
  some false
 else
  (aO (tn p0 p1) 0).bind fun q=>match q with
  | (.inl _) =>
   some true
  | (.inr ra) =>
   some ra
def s4 (p2:(List al)) (r1:Int×Bool) (s9b:Int):(Int×Int×(List Int)×Int×(List Int))->Option ((Int×Int×(List Int)×Int×(List Int))⊕((Int×(List Int)×Int×(List Int))))
 | (s60d,r10_0d,r10_1d,r10_2d,r10_3d) =>
  if decide (s60d<r1.1) then
   (tK .i64 1 s60d).bind fun x44 =>
   if ((cV .and .i64 s9b x44) != 0) then
    (P.idx p2 s9b).bind fun x47 =>
    (P.idx p2 (cV .andNot .i64 s9b x44)).bind fun x49 =>
    (fU x47 x49).bind fun r50 =>
    (iO (al.mk (aq.mk r10_0d r10_1d) (aq.mk r10_2d r10_3d)) r50).bind fun r51 =>
    some (.inl (IntKind.i64.wrap (s60d+1),r51.aJ.ah,r51.aJ.aa,r51.aL.ah,r51.aL.aa))
   else
    some (.inl (IntKind.i64.wrap (s60d+1),r10_0d,r10_1d,r10_2d,r10_3d))
  else
   some (.inr (r10_0d,r10_1d,r10_2d,r10_3d))
def sZ (p0:(List al)) (p2:(List al)) (r1:Int×Bool):(Int)->Option ((Int)⊕((Unit)⊕(Bool)))
 | s9b =>
  if decide (s9b<(p0.length:Int)) then
   (fw 0).bind fun r32 =>
   (aO (s4 p2 r1 s9b) (0,r32.aJ.ah,r32.aJ.aa,r32.aL.ah,r32.aL.aa)).bind fun q=>match q with
   | (r10_0dx,r10_1dx,r10_2dx,r10_3dx) =>
    (P.idx p0 s9b).bind fun x52 =>
    (P.idx p0 0).bind fun x53 =>
    (fU x52 x53).bind fun r54 =>
    (j6 (al.mk (aq.mk r10_0dx r10_1dx) (aq.mk r10_2dx r10_3dx)) r54).bind fun r55 =>
    if (r55 != 0) then
     some (.inr (.inr false))
    else
     some (.inl (IntKind.i64.wrap (s9b+1)))
  else
   some (.inr (.inl ()))
def s5 (p0:(List al)) (p1:(List al)) (p2:(List al)):(Int)->Option ((Int)⊕((Unit)⊕(Bool)))
 | s99e =>
  if decide (s99e<(p1.length:Int)) then
   (P.idx p1 s99e).bind fun x68 =>
   (P.idx p2 (IntKind.i64.wrap ((p0.length:Int)-1))).bind fun x69 =>
   (tK .i64 1 s99e).bind fun x70 =>
   (P.idx p2 (cV .andNot .i64 (IntKind.i64.wrap ((p0.length:Int)-1)) x70)).bind fun x72 =>
   (fU x69 x72).bind fun r73 =>
   (j6 x68 r73).bind fun r74 =>
   if (r74 != 0) then
    some (.inr (.inr false))
   else
    some (.inl (IntKind.i64.wrap (s99e+1)))
  else
   some (.inr (.inl ()))
def lV (p0:(List al)) (p1:(List al)) (p2:(List al)):Option (Bool) :=
 (fB p0).bind fun r1 =>
 (if (!r1.2) then
  some true
 else
  if ((p1.length:Int) != r1.1) then
   some true
  else
   if ((p2.length:Int) != (p0.length:Int)) then
    some true
   else
    (fC p1).bind fun r79 =>
    if (!r79) then
     some true
    else
     (fC p2).bind fun r81 =>
     if (!r81) then
      some true
     else
      (P.idx p2 0).bind fun x83 =>
      (gD x83).bind fun r84 =>
      some (r84 != 0)).bind fun s51j1 =>
 if s51j1 then
  some false
 else
  (aO (sZ p0 p2 r1) 1).bind fun q=>match q with
  | (.inl _) =>
   (aO (s5 p0 p1 p2) 0).bind fun q=>match q with
   | (.inl _) =>
    some true
   | (.inr re) =>
    some re
  | (.inr rb) =>
   some rb
def nJ (p0:(List Int)) (p1:(List Int)) (p2:(List Int)):Option (Bool) :=
 (rf p0).bind fun r1 =>
 (eQ r1).bind fun r2 =>
 (df r1).bind fun r3 =>
 if (r2.2==0) then
  (mV p1).bind fun r5 =>
  (kj r2.1 r5).bind fun r6 =>
  if r6 then
   (mV p2).bind fun r8 =>
   (kj r3 r8).bind fun r9 =>
   if r9 then
    (lV r1 r2.1 r3).bind fun r11 =>
    some r11
   else
    some false
  else
   some false
 else
  some false
def oR:Option (Bool) :=
 (rf ([1,2,3])).bind fun r2 =>
 (eQ r2).bind fun r3 =>
 (nJ ([10]) ([]) ([0])).bind fun r5 =>
 (if r5 then
  (nJ ([10,13]) ([6]) ([0,6])).bind fun r16 =>
  if r16 then
   (nJ ([10,13,12,18]) ([9,7]) ([0,6,4,13])).bind fun r19 =>
   some r19
  else
   some false
 else
  some false).bind fun s3j1 =>
 if s3j1 then
  (nJ ([0,0,0,6]) ([6,6]) ([0,0,0,6])).bind fun r9 =>
  if r9 then
   if (r3.2==1) then
    (df r2).bind fun r13 =>
    some ((r13.length:Int)==0)
   else
    some false
  else
   some false
 else
  some false
def fe (p1:(List al)) (p3:(List Int)) (r1:Bool) (s13b:Int):(Int)->Option ((Int)⊕((Unit)⊕(Bool)))
 | s14d =>
  if decide (s14d<s13b) then
   (P.idx p3 s14d).bind fun x37 =>
   (uI .i64 (IntKind.i64.wrap x37) (p1.length:Int)).bind fun x38 =>
   (P.idx p3 s13b).bind fun x40 =>
   (uI .i64 (IntKind.i64.wrap x40) (p1.length:Int)).bind fun x41 =>
   if (x38==x41) then
    some (.inr (.inr r1))
   else
    some (.inl (IntKind.i64.wrap (s14d+1)))
  else
   some (.inr (.inl ()))
def ej (p1:(List al)) (p3:(List Int)) (r1:Bool):(Int)->Option ((Int)⊕((Unit)⊕(Bool)))
 | s13b =>
  if decide (s13b<(p3.length:Int)) then
   (aO (fe p1 p3 r1 s13b) 0).bind fun q=>match q with
   | (.inl _) =>
    some (.inl (IntKind.i64.wrap (s13b+1)))
   | (.inr rd) =>
    some (.inr (.inr rd))
  else
   some (.inr (.inl ()))
def du (p1:(List al)) (p3:(List Int)) (p4:(List al)) (s16e:Int):(Int×(List al))->Option ((Int×(List al))⊕(((List al))))
 | (s18g,l17g) =>
  if decide (s18g<(p3.length:Int)) then
   (nc .i64 s16e s18g).bind fun x94 =>
   if ((cV .and .i64 x94 1)==1) then
    (P.idx p3 s18g).bind fun x97 =>
    (uI .i64 (IntKind.i64.wrap x97) (p1.length:Int)).bind fun x98 =>
    (P.idx p4 s18g).bind fun x100 =>
    (P.idx l17g x98).bind fun x101 =>
    some (.inl (IntKind.i64.wrap (s18g+1),(l17g.set (x98).toNat x100)))
   else
    some (.inl (IntKind.i64.wrap (s18g+1),l17g))
  else
   some (.inr l17g)
def dt (p0:de) (p1:(List al)) (p3:(List Int)) (p4:(List al)) (r1:Bool) (x5:Int):(Int×(List al))->Option ((Int×(List al))⊕(((List al))⊕(Bool)))
 | (s16e,l15e) =>
  (tK .i64 1 (p3.length:Int)).bind fun x77 =>
  if decide (s16e<x77) then
   (iB 64 [] p1).bind fun _ =>
   (aO (du p1 p3 p4 s16e) (0,p1)).bind fun l17gx =>
   (iA p0 l17gx).bind fun r103 =>
   if (r103.2 != 0) then
    some (.inr (.inr r1))
   else
    if ((r103.1.length:Int) != (p1.length:Int)) then
     some (.inr (.inr false))
    else
     (P.idx r103.1 x5).bind fun x106 =>
     (iB 64 l15e [x106]).bind fun x107 =>
     some (.inl (IntKind.i64.wrap (s16e+1),x107))
  else
   some (.inr (.inl l15e))
def pH (p0:de):(Int×(List Bool))->Option ((Int×(List Bool))⊕(((List Bool))))
 | (s28o,l26o) =>
  if decide (s28o<(p0.aw.length:Int)) then
   (P.idx p0.aw s28o).bind fun x202 =>
   (P.idx l26o x202.dq).bind fun x203 =>
   if x203 then
    (P.idx l26o x202.lJ).bind fun x205 =>
    some (.inl (IntKind.i64.wrap (s28o+1),(l26o.set (x202.lJ).toNat true)))
   else
    some (.inl (IntKind.i64.wrap (s28o+1),l26o))
  else
   some (.inr l26o)
def iR (p0:de) (p1:(List al)):(Int×(List Bool))->Option ((Int×(List Bool))⊕(((List Bool))))
 | (s27m,l26m) =>
  if decide (s27m<(p1.length:Int)) then
   (aO (pH p0) (0,l26m)).bind fun l26ox =>
   some (.inl (IntKind.i64.wrap (s27m+1),l26ox))
  else
   some (.inr l26m)
def jA (p0:de) (p1:(List al)) (p3:(List Int)) (x5:Int) (l15ex:(List al)) (r109:(List al)×Int):(Int)->Option ((Int)⊕((Unit)⊕(Bool)))
 | s23i =>
  if decide (s23i<(p3.length:Int)) then
   (tK .i64 1 s23i).bind fun x163 =>
   (P.idx l15ex x163).bind fun x165 =>
   (P.idx l15ex 0).bind fun x166 =>
   (kG x165 x166).bind fun r167 =>
   (P.idx r109.1 s23i).bind fun x168 =>
   (mw x168 r167.1).bind fun r169 =>
   if (!r169) then
    some (.inr (.inr false))
   else
    (B1 1 (p1.length:Int) (p1.length:Int) false).bind fun x171 =>
    (P.idx p3 s23i).bind fun x173 =>
    (uI .i64 (IntKind.i64.wrap x173) (p1.length:Int)).bind fun x174 =>
    (P.idx x171 x174).bind fun x176 =>
    (aO (iR p0 p1) (0,(x171.set (x174).toNat true))).bind fun l26mx =>
    (P.idx l26mx x5).bind fun x207 =>
    if (!x207) then
     (gD x168).bind fun r209 =>
     if (r209 != 0) then
      some (.inr (.inr false))
     else
      some (.inl (IntKind.i64.wrap (s23i+1)))
    else
     some (.inl (IntKind.i64.wrap (s23i+1)))
  else
   some (.inr (.inl ()))
def fW (p0:de) (p1:(List al)) (p2:Int) (p3:(List Int)) (p4:(List al)):Option (Bool) :=
 (oR).bind fun r1 =>
 (ll p0).bind fun r2 =>
 (if (!r2) then
  some true
 else
  (qB p1 4).bind fun r213 =>
  if (!r213) then
   some true
  else
   if ((p1.length:Int)==0) then
    some true
   else
    if decide ((p3.length:Int)>3) then
     some true
    else
     if decide ((p4.length:Int)<(p3.length:Int)) then
      some true
     else
      (qB p4 4).bind fun r218 =>
      some (!r218)).bind fun s59j1 =>
 if s59j1 then
  some r1
 else
  (uI .i64 (IntKind.i64.wrap p2) (p1.length:Int)).bind fun x5 =>
  (aO (ej p1 p3 r1) 0).bind fun q=>match q with
  | (.inl _) =>
   (aO (dt p0 p1 p3 p4 r1 x5) (0,[])).bind fun q=>match q with
   | (.inl l15ex) =>
    (eQ l15ex).bind fun r109 =>
    (if (r109.2 != 0) then
     some true
    else
     some ((r109.1.length:Int) != (p3.length:Int))).bind fun s165j8 =>
    if s165j8 then
     some false
    else
     (aO (jA p0 p1 p3 x5 l15ex r109) 0).bind fun q=>match q with
     | (.inl _) =>
      some r1
     | (.inr ri) =>
      some ri
   | (.inr re) =>
    some re
  | (.inr rb) =>
   some rb
end Go.Proofs.Ytchndpjlijbplaa.P
namespace Go.Proofs.Ytchndpjlijbplaa.Am
open Go.RowKit Go.Proofs.Ytchndpjlijbplaa.P
set_option maxRecDepth 100000
set_option maxHeartbeats 4000000
theorem vmt:type_of% (ai @abd<|ai @Uc<|ai @abe<|ai @Pq<|ai @abf<|ai @Yw<|ai @Yx<|ai @Ro<|ai @Yy<|ai @Kv<|ai @Fa<|ai @Yz<|ai @Kw<|ai @YA<|ai @YB<|ai @Rp<|ai @YC<|ai @Kx<|ai @YD<|ai @Ky<|ai @Kz<|ai @YE<|ai @YF<|ai @YG<|ai @Rq<|ai @YH<|ai @YI<|ai @YJ<|ai @T9<|ai @Ua<|@Ub):=⟨@abd,@Uc,@abe,@Pq,@abf,@Yw,@Yx,@Ro,@Yy,@Kv,@Fa,@Yz,@Kw,@YA,@YB,@Rp,@YC,@Kx,@YD,@Ky,@Kz,@YE,@YF,@YG,@Rq,@YH,@YI,@YJ,@T9,@Ua,@Ub⟩
def fb:jf aq:=Me (yh (eI .i64) (Md (eI .i64))) (fun x=>(x.ah,x.aa)) (by rintro⟨⟩ ⟨⟩ h;simpa using h)
theorem AU (x:aq):fb.cells x=[.int .i64 x.ah,.sl false false x.aa.length (ae (eI .i64) x.aa)]:=ahv
theorem xl:fb.size=2:=ahv
theorem Mp (x:aq):aq.mk x.ah x.aa=x:=ahv
def an:jf al:=Me (yh fb fb) (fun x=>(x.aJ,x.aL)) (by rintro⟨⟩ ⟨⟩ h;simpa using h)
theorem yi (x:al):an.cells x=[.int .i64 x.aJ.ah,.sl false false x.aJ.aa.length (ae (eI .i64) x.aJ.aa),.int .i64 x.aL.ah,.sl false false x.aL.aa.length (ae (eI .i64) x.aL.aa)]:=ahv
theorem um:an.size=4:=ahv
theorem He (x:al):al.mk x.aJ x.aL=x:=ahv
def ba:jf fa:=Me (yh (eI .i64) (yh (eI .i64) an)) (fun x=>(x.dq,x.lJ,x.bR)) (by rintro⟨⟩ ⟨⟩ h;simpa using h)
theorem yj (x:fa):ba.cells x=[.int .i64 x.dq,.int .i64 x.lJ,.int .i64 x.bR.aJ.ah,.sl false false x.bR.aJ.aa.length (ae (eI .i64) x.bR.aJ.aa),.int .i64 x.bR.aL.ah,.sl false false x.bR.aL.aa.length (ae (eI .i64) x.bR.aL.aa)]:=ahv
theorem uo:ba.size=6:=ahv
theorem Hf (x:fa):fa.mk x.dq x.lJ x.bR=x:=ahv
def td:jf de:=Me (yh (eI .i64) (Md ba)) (fun x=>(x.aG,x.aw)) (by rintro⟨⟩ ⟨⟩ h;simpa using h)
theorem AV (x:de):td.cells x=[.int .i64 x.aG,.sl false false x.aw.length (ae ba x.aw)]:=ahv
theorem xm:td.size=2:=ahv
theorem Mq (x:de):de.mk x.aG x.aw=x:=ahv
def bp:jf dH:=Me (yh (eI .i64) an) (fun x=>(x.l5,x.dW)) (by rintro⟨⟩ ⟨⟩ h;simpa using h)
theorem yk (x:dH):bp.cells x=[.int .i64 x.l5,.int .i64 x.dW.aJ.ah,.sl false false x.dW.aJ.aa.length (ae (eI .i64) x.dW.aJ.aa),.int .i64 x.dW.aL.ah,.sl false false x.dW.aL.aa.length (ae (eI .i64) x.dW.aL.aa)]:=ahv
theorem uq:bp.size=5:=ahv
theorem Hg (x:dH):dH.mk x.l5 x.dW=x:=ahv
def fj:jf az:=Me (yh an (Md bp)) (fun x=>(x.aX,x.bA)) (by rintro⟨⟩ ⟨⟩ h;simpa using h)
theorem mS (x:az):fj.cells x=[.int .i64 x.aX.aJ.ah,.sl false false x.aX.aJ.aa.length (ae (eI .i64) x.aX.aJ.aa),.int .i64 x.aX.aL.ah,.sl false false x.aX.aL.aa.length (ae (eI .i64) x.aX.aL.aa),.sl false false x.bA.length (ae bp x.bA)]:=ahv
theorem n6:fj.size=5:=ahv
def aF:jf az:=Me (yh an (Di bp)) (fun x=>(x.aX,x.bA)) (by rintro⟨⟩ ⟨⟩ h;simpa using h)
theorem dr (x:az):aF.cells x=[.int .i64 x.aX.aJ.ah,.sl false false x.aX.aJ.aa.length (ae (eI .i64) x.aX.aJ.aa),.int .i64 x.aX.aL.ah,.sl false false x.aX.aL.aa.length (ae (eI .i64) x.aX.aL.aa),.nx (x.bA).length (ae bp (x.bA))]:=ahv
theorem qX:aF.size=5:=ahv
theorem Dn (x:az):(aF.cells x).map unN=fj.cells x:=ahv
theorem Dm (x:az):(aF.cells x).all (FR 5)=true:=by simp[dr,FR,gr,bQ,Jq,xh,zN,Dj,xl,um,uo,xm,uq,n6]
def aW:jf (Bool×az):=acz fj aF rfl (by intro x y h;simp[mS,dr]at h)
theorem wP (x:az):aW.cells (false,x)=[.int .i64 x.aX.aJ.ah,.sl false false x.aX.aJ.aa.length (ae (eI .i64) x.aX.aJ.aa),.int .i64 x.aX.aL.ah,.sl false false x.aX.aL.aa.length (ae (eI .i64) x.aX.aL.aa),.nx (x.bA).length (ae bp (x.bA))]:=ahv
theorem wQ (x:az):aW.cells (true,x)=[.int .i64 x.aX.aJ.ah,.sl false false x.aX.aJ.aa.length (ae (eI .i64) x.aX.aJ.aa),.int .i64 x.aX.aL.ah,.sl false false x.aX.aL.aa.length (ae (eI .i64) x.aX.aL.aa),.sl false false x.bA.length (ae bp x.bA)]:=ahv
theorem lZ (x:az):aW.cells (false,x)=aF.cells x:=ahv
theorem Dl (x:az):aW.cells (true,x)=fj.cells x:=ahv
theorem mR:aW.size=5:=ahv
theorem wR (x:az):az.mk x.aX x.bA=x:=ahv
theorem aaL {l:List _} : (ae (eI .i64) l).length=l.length*1:=bQ _ l
theorem Rr {l:List _} : (ae (eI .i64) l).take (l.length*1)=ae (eI .i64) l:=by
 have:=ew (eI .i64) l l.length
 rw[agO]at this
 exact this
theorem YK {l:List _} {i:Nat} {x:_} : (ae (eI .i64) (l.set i x)).take (l.length*1)=ae (eI .i64) (l.set i x):=by
 have:=@Rr (l.set i x)
 rwa [agN]at this
theorem aaM {l:List _} : (ae (eI .u8) l).length=l.length*1:=bQ _ l
theorem Rs {l:List _} : (ae (eI .u8) l).take (l.length*1)=ae (eI .u8) l:=by
 have:=ew (eI .u8) l l.length
 rw[agO]at this
 exact this
theorem YL {l:List _} {i:Nat} {x:_} : (ae (eI .u8) (l.set i x)).take (l.length*1)=ae (eI .u8) (l.set i x):=by
 have:=@Rs (l.set i x)
 rwa [agN]at this
theorem aaN {l:List _} : (ae (Di (eI .i64)) l).length=l.length*1:=bQ _ l
theorem Rt {l:List _} : (ae (Di (eI .i64)) l).take (l.length*1)=ae (Di (eI .i64)) l:=by
 have:=ew (Di (eI .i64)) l l.length
 rw[agO]at this
 exact this
theorem YM {l:List _} {i:Nat} {x:_} : (ae (Di (eI .i64)) (l.set i x)).take (l.length*1)=ae (Di (eI .i64)) (l.set i x):=by
 have:=@Rt (l.set i x)
 rwa [agN]at this
theorem aaO {l:List _} : (ae (Md (eI .i64)) l).length=l.length*1:=bQ _ l
theorem Ru {l:List _} : (ae (Md (eI .i64)) l).take (l.length*1)=ae (Md (eI .i64)) l:=by
 have:=ew (Md (eI .i64)) l l.length
 rw[agO]at this
 exact this
theorem YN {l:List _} {i:Nat} {x:_} : (ae (Md (eI .i64)) (l.set i x)).take (l.length*1)=ae (Md (eI .i64)) (l.set i x):=by
 have:=@Ru (l.set i x)
 rwa [agN]at this
theorem aaP {l:List _} : (ae lY l).length=l.length*1:=bQ _ l
theorem Rv {l:List _} : (ae lY l).take (l.length*1)=ae lY l:=by
 have:=ew lY l l.length
 rw[agO]at this
 exact this
theorem YO {l:List _} {i:Nat} {x:_} : (ae lY (l.set i x)).take (l.length*1)=ae lY (l.set i x):=by
 have:=@Rv (l.set i x)
 rwa [agN]at this
theorem aaQ {l:List _} : (ae an l).length=l.length*4:=bQ _ l
theorem Rw {l:List _} : (ae an l).take (l.length*4)=ae an l:=by
 have:=ew an l l.length
 rw[agO]at this
 exact this
theorem YP {l:List _} {i:Nat} {x:_} : (ae an (l.set i x)).take (l.length*4)=ae an (l.set i x):=by
 have:=@Rw (l.set i x)
 rwa [agN]at this
theorem aaR {l:List _} : (ae ba l).length=l.length*6:=bQ _ l
theorem Rx {l:List _} : (ae ba l).take (l.length*6)=ae ba l:=by
 have:=ew ba l l.length
 rw[agO]at this
 exact this
theorem YQ {l:List _} {i:Nat} {x:_} : (ae ba (l.set i x)).take (l.length*6)=ae ba (l.set i x):=by
 have:=@Rx (l.set i x)
 rwa [agN]at this
theorem aaS {l:List _} : (ae fj l).length=l.length*5:=bQ _ l
theorem Ry {l:List _} : (ae fj l).take (l.length*5)=ae fj l:=by
 have:=ew fj l l.length
 rw[agO]at this
 exact this
theorem YR {l:List _} {i:Nat} {x:_} : (ae fj (l.set i x)).take (l.length*5)=ae fj (l.set i x):=by
 have:=@Ry (l.set i x)
 rwa [agN]at this
theorem aaT {l:List _} : (ae aW l).length=l.length*5:=bQ _ l
theorem Rz {l:List _} : (ae aW l).take (l.length*5)=ae aW l:=by
 have:=ew aW l l.length
 rw[agO]at this
 exact this
theorem YS {l:List _} {i:Nat} {x:_} : (ae aW (l.set i x)).take (l.length*5)=ae aW (l.set i x):=by
 have:=@Rz (l.set i x)
 rwa [agN]at this
theorem aaU {l:List _} : (ae aF l).length=l.length*5:=bQ _ l
theorem RA {l:List _} : (ae aF l).take (l.length*5)=ae aF l:=by
 have:=ew aF l l.length
 rw[agO]at this
 exact this
theorem YT {l:List _} {i:Nat} {x:_} : (ae aF (l.set i x)).take (l.length*5)=ae aF (l.set i x):=by
 have:=@RA (l.set i x)
 rwa [agN]at this
theorem XA {l:List _} : (ae bp l).length=l.length*5:=bQ _ l
theorem KA {l:List _} : (ae bp l).take (l.length*5)=ae bp l:=by
 have:=ew bp l l.length
 rw[agO]at this
 exact this
theorem Ud {l:List _} {i:Nat} {x:_} : (ae bp (l.set i x)).take (l.length*5)=ae bp (l.set i x):=by
 have:=@KA (l.set i x)
 rwa [agN]at this
theorem vme:type_of% (ai @Dh<|ai @AT<|ai @Dk<|ai @zM<|ai @Jq<|ai @xh<|ai @zN<|ai @Dj<|ai @yl<|ai @vv<|ai @yg<|ai @dr<|ai @qX<|ai @wP<|ai @wQ<|ai @mR<|ai @AU<|ai @xl<|ai @yi<|ai @um<|ai @yj<|ai @uo<|ai @AV<|ai @xm<|ai @yk<|ai @uq<|ai @mS<|@n6):=⟨@Dh,@AT,@Dk,@zM,@Jq,@xh,@zN,@Dj,@yl,@vv,@yg,@dr,@qX,@wP,@wQ,@mR,@AU,@xl,@yi,@um,@yj,@uo,@AV,@xm,@yk,@uq,@mS,@n6⟩
theorem vml:type_of% (ai @a7<|ai @Mp<|ai @He<|ai @Hf<|ai @Mq<|ai @Hg<|ai @wR<|ai @aaL<|ai @Rr<|ai @YK<|ai @aaM<|ai @Rs<|ai @YL<|ai @aaN<|ai @Rt<|ai @YM<|ai @aaO<|ai @Ru<|ai @YN<|ai @aaP<|ai @Rv<|ai @YO<|ai @aaQ<|ai @Rw<|ai @YP<|ai @aaR<|ai @Rx<|ai @YQ<|ai @aaS<|ai @Ry<|ai @YR<|ai @aaT<|ai @Rz<|ai @YS<|ai @aaU<|ai @RA<|ai @YT<|ai @XA<|ai @KA<|@Ud):=⟨@a7,@Mp,@He,@Hf,@Mq,@Hg,@wR,@aaL,@Rr,@YK,@aaM,@Rs,@YL,@aaN,@Rt,@YM,@aaO,@Ru,@YN,@aaP,@Rv,@YO,@aaQ,@Rw,@YP,@aaR,@Rx,@YQ,@aaS,@Ry,@YR,@aaT,@Rz,@YS,@aaU,@RA,@YT,@XA,@KA,@Ud⟩
theorem w:type_of% (ai @v<|ai @vmt<|ai @vme<|ai @vml<|ai @vn<|@vi):=⟨@v,@vmt,@vme,@vml,@vn,@vi⟩
theorem bo:type_of% (ai @vme<|ai @agE<|ai @agu<|ai @aff<|ai @agF<|@af7):=⟨@vme,@agE,@agu,@aff,@agF,@af7⟩
def kY:=fR (fH (lM (eI .i64))) (fun x:(List Int)=>jW x) (fun r:(List Int) =>.clean (.sl false false r.length (ae (eI .i64) r)))
theorem fX (p0:(List Int)):kY none [.sl false false p0.length (ae (eI .i64) p0)]=(jW p0).map fun r:(List Int)=>(.clean (.sl false false r.length (ae (eI .i64) r)),none):=aN _ _ _ (p0)
theorem QR (p0:(List Int)) (r:(List Int)) (hh:jW p0=some r):a6 .clean tab aY FU Try.f106 none [.sl false false p0.length (ae (eI .i64) p0)]=some (.clean (.sl false false r.length (ae (eI .i64) r)),none):=by
 apply aD rfl Try.ntmps106 Try.results106
 unfold jW at hh
 try simp only[w,seval]
 obtain⟨o4,ho4,hh⟩:=ag hh
 refine aB (fun s t H e=>match s with|s3a=>t 0=.sl false false p0.length (ae (eI .i64) p0)∧t 3=.int .i64 s3a) (fun o x t H e=>match o with|s3ax=>x=.exit 0∧t 0=.sl false false p0.length (ae (eI .i64) p0)∧t 3=.int .i64 s3ax) ho4 ?_ ?_ ?_
 ·refine⟨?_,?_⟩
  all_goals first|rfl|(simp only[w,seval]<;>rfl)
 ·rintro s3a t H e Za c hh
  simp only[Bl]at hh
  try simp only[w,seval,Za]
  apply sp dj hh<;>intro _ hh
  ·obtain⟨x6,hx6,hh⟩:=ag hh
   have ax6:=bm (eI .i64) hx6
   simp only[bo]at ax6
   try simp only[w,seval,Za,ax6]
   apply sp au hh<;>intro _ hh
   ·cases hh
    try simp only[w,seval,Za,ax6]
    apply iC
    refine⟨?_,?_⟩
    all_goals first|rfl|(simp only[w,seval,Za,ax6]<;>rfl)
   ·cases hh
    try simp only[w,seval,Za,ax6]
    apply jP
    refine⟨rfl,⟨?_,?_⟩⟩
    all_goals first|rfl|(simp only[w,seval,Za,ax6]<;>rfl)
  ·cases hh
   try simp only[w,seval,Za]
   apply jP
   refine⟨rfl,⟨?_,?_⟩⟩
   all_goals first|rfl|(simp only[w,seval,Za]<;>rfl)
 ·rintro x t H e hx
  obtain⟨s3ax,rfl⟩:∃z,z=o4:=⟨_,rfl⟩
  dsimp only at hx hh
  obtain⟨rfl,Zax⟩:=hx
  obtain⟨x8,hx8,hh⟩:=ag hh
  obtain⟨q9a,q9b,q9c,q9d,q9e⟩:=Ks (eI .i64) hx8
  simp only[bo]at q9e
  obtain⟨x10,hx10,hh⟩:=ag hh
  obtain⟨q11a,q11b,q11c⟩:=xT hx10
  replace q11a:=q11a.symm
  subst q11a
  cases hh
  try simp only[w,seval,Zax,q9a,q9b,q9c,q9d,q9e,q11b,q11c]
theorem nQ:bT Try.prog 106 kY:=bT.of (mode := .clean) tok bq.none mixed Try.func106 (by kernel_rfl) ⟨by kernel_rfl,by kernel_rfl⟩ (fun _=>agv (by kernel_rfl)) (fun x r h=>QR x r h)
def mL:=fR (jE (aI .i64) (fH (lM (eI .i64)))) (fun x:Int×(List Int)=>jV x.1 x.2) (fun r:aq =>.clean (.agg [.int .i64 r.ah,.sl false false r.aa.length (ae (eI .i64) r.aa)]))
theorem jU (p0:Int) (p1:(List Int)):mL none [.int .i64 p0,.sl false false p1.length (ae (eI .i64) p1)]=(jV p0 p1).map fun r:aq=>(.clean (.agg [.int .i64 r.ah,.sl false false r.aa.length (ae (eI .i64) r.aa)]),none):=aN _ _ _ (p0,p1)
def ss:Env:=(Am.ext aY 106 false kY)
theorem MM:bq Try.prog ss:=(bq.none.add nQ false)
theorem xJ:type_of% (ai @w<|ai @fX<|@ss.eq_1):=⟨@w,@fX,@ss.eq_1⟩
theorem QO (p0:Int) (p1:(List Int)) (r:aq) (hh:jV p0 p1=some r):a6 .clean tab ss FU Try.f86 none [.int .i64 p0,.sl false false p1.length (ae (eI .i64) p1)]=some (.clean (.agg [.int .i64 r.ah,.sl false false r.aa.length (ae (eI .i64) r.aa)]),none):=by
 apply aD rfl Try.ntmps86 Try.results86
 unfold jV at hh
 obtain⟨r1,hr1,hh⟩:=ag hh
 try simp only[xJ,seval,hr1]
 apply sp au hh<;>intro _ hh
 ·cases hh
  try simp only[xJ,seval,hr1]
 ·cases hh
  try simp only[xJ,seval,hr1]
theorem qp:bT Try.prog 86 mL:=bT.of (mode := .clean) tok MM mixed Try.func86 (by kernel_rfl) ⟨by kernel_rfl,by kernel_rfl⟩ (fun _=>agv (by kernel_rfl)) (fun x r h=>QO x.1 x.2 r h)
def Cb:=fR (fH (aI .i64)) (fun x:Int=>Ae x) (fun r:aq =>.clean (.agg [.int .i64 r.ah,.sl false false r.aa.length (ae (eI .i64) r.aa)]))
theorem OJ (p0:Int):Cb none [.int .i64 p0]=(Ae p0).map fun r:aq=>(.clean (.agg [.int .i64 r.ah,.sl false false r.aa.length (ae (eI .i64) r.aa)]),none):=aN _ _ _ (p0)
def yr:Env:=(Am.ext aY 86 false mL)
theorem UR:bq Try.prog yr:=(bq.none.add qp false)
theorem eu:type_of% (ai @w<|ai @jU<|@yr.eq_1):=⟨@w,@jU,@yr.eq_1⟩
theorem XH (p0:Int) (r:aq) (hh:Ae p0=some r):a6 .clean tab yr FU Try.f58 none [.int .i64 p0]=some (.clean (.agg [.int .i64 r.ah,.sl false false r.aa.length (ae (eI .i64) r.aa)]),none):=by
 apply aD rfl Try.ntmps58 Try.results58
 unfold Ae at hh
 try simp only[eu,seval]
 apply sp au hh<;>intro _ hh
 ·cases hh
  try simp only[eu,seval]
 ·try simp only[eu,seval]
  obtain⟨o2,ho2,hh⟩:=ag hh
  refine je 0 (fun s t H e=>match s with|s3j1=>∃v2j1:Nat,t 0=.int .i64 p0∧t 2=.ptr 2 v2j1 0∧t 3=.int .i64 s3j1∧H 2=some ⟨v2j1,39,[.int .i64 0,.sl true true 0 []],false,false,false⟩) (fun s=>s=o2) ?_ ?_
  ·rintro s3j1 t H e ⟨v2j1,Zj1⟩ rfl
   try dsimp only at hh
   try simp only[eu,seval,Zj1]
   obtain⟨o15,ho15,hh⟩:=ag hh
   refine aB (fun s t H e=>match s with|(s0b,l4b)=>∃v2b:Nat,∃v4b:Nat,t 0=.int .i64 s0b∧t 2=.ptr 2 v2b 0∧t 3=.int .i64 s3j1∧t 4=.buf 4 v4b 1 0 (l4b).length∧H 2=some ⟨v2b,39,[.int .i64 0,.sl true true 0 []],false,false,false⟩∧H 4=some ⟨v4b,3,ae (eI .i64) l4b,false,true,false⟩) (fun o x t H e=>match o with|l4bx=>x=.exit 0∧∃v2bx:Nat,∃v4bx:Nat,t 2=.ptr 2 v2bx 0∧t 3=.int .i64 s3j1∧t 4=.buf 4 v4bx 1 0 (l4bx).length∧H 2=some ⟨v2bx,39,[.int .i64 0,.sl true true 0 []],false,false,false⟩∧H 4=some ⟨v4bx,3,ae (eI .i64) l4bx,false,true,false⟩) ho15 ?_ ?_ ?_
   ·refine⟨v2j1,e,?_,?_,?_,?_,?_,?_⟩
    all_goals first|rfl|(simp only[eu,seval,Zj1]<;>rfl)
   ·rintro⟨s0b,l4b⟩ t H e ⟨v2b,v4b,Zb⟩ c hh
    simp only[Io]at hh
    try simp only[eu,seval,Zb]
    apply sp au hh<;>intro _ hh
    ·obtain⟨x17,hx17,hh⟩:=ag hh
     have q18:=nw hx17
     try simp only[eu,seval,Zb,q18]
     apply sp au hh<;>intro _ hh
     ·obtain⟨x20,hx20,hh⟩:=ag hh
      obtain⟨q21a,q21b,q21c,q21d⟩:=gI (eI .i64) hx20
      simp only[bo]at q21b
      obtain⟨x22,hx22,hh⟩:=ag hh
      have q23:=sb hx22
      cases hh
      try simp only[eu,seval,Zb,q18,q21a,q21b,q21c,q21d,q23]
      apply iC
      refine⟨v2b,e+1+1+1+1,?_,?_,?_,?_,?_,?_⟩
      all_goals first|rfl|(simp only[eu,seval,Zb,q18,q21a,q21b,q21c,q21d,q23]<;>rfl)
     ·obtain⟨x24,hx24,hh⟩:=ag hh
      obtain⟨q25a,q25b,q25c,q25d⟩:=gI (eI .i64) hx24
      simp only[bo]at q25b
      obtain⟨x26,hx26,hh⟩:=ag hh
      have q27:=sb hx26
      cases hh
      try simp only[eu,seval,Zb,q18,q25a,q25b,q25c,q25d,q27]
      apply iC
      refine⟨v2b,e+1+1+1,?_,?_,?_,?_,?_,?_⟩
      all_goals first|rfl|(simp only[eu,seval,Zb,q18,q25a,q25b,q25c,q25d,q27]<;>rfl)
    ·cases hh
     try simp only[eu,seval,Zb]
     apply jP
     refine⟨rfl,⟨v2b,v4b,?_,?_,?_,?_,?_⟩⟩
     all_goals first|rfl|(simp only[eu,seval,Zb]<;>rfl)
   ·rintro x t H e hx
    obtain⟨l4bx,rfl⟩:∃z,z=o15:=⟨_,rfl⟩
    dsimp only at hx hh
    obtain⟨rfl,⟨v2bx,v4bx,Zbx⟩⟩:=hx
    obtain⟨r28,hr28,hh⟩:=ag hh
    cases hh
    try simp only[eu,seval,Zbx,hr28]
  ·clear hh
   have hh:=ho2
   try simp only[eu,seval]
   apply sp au hh<;>intro _ hh
   ·cases hh
    try simp only[eu,seval]
    rw[av]
    refine⟨_,rfl,?_⟩
    refine⟨0,?_,?_,?_,?_⟩
    all_goals first|rfl|(simp only[eu,seval]<;>rfl)
   ·cases hh
    try simp only[eu,seval]
    rw[av]
    refine⟨_,rfl,?_⟩
    refine⟨0,?_,?_,?_,?_⟩
    all_goals first|rfl|(simp only[eu,seval]<;>rfl)
theorem Vr:bT Try.prog 58 Cb:=bT.of (mode := .clean) tok UR mixed Try.func58 (by kernel_rfl) ⟨by kernel_rfl,by kernel_rfl⟩ (fun _=>agv (by kernel_rfl)) (fun x r h=>XH x r h)
def lr:=fR (fH (dk fb)) (fun x:aq=>iy x) (fun r:Bool =>.clean (.bool r))
theorem iJ (p0_0:Int) (p0_1:(List Int)):lr none [.agg [.int .i64 p0_0,.sl false false p0_1.length (ae (eI .i64) p0_1)]]=(iy (aq.mk p0_0 p0_1)).map fun r:Bool=>(.clean (.bool r),none):=aN _ _ _ ((aq.mk p0_0 p0_1))
theorem NS (p0:aq) (r:Bool) (hh:iy p0=some r):a6 .clean tab aY FU Try.f55 none [.agg [.int .i64 p0.ah,.sl false false p0.aa.length (ae (eI .i64) p0.aa)]]=some (.clean (.bool r),none):=by
 apply aD rfl Try.ntmps55 Try.results55
 unfold iy at hh
 try simp only[w,seval]
 obtain⟨o5,ho5,hh⟩:=ag hh
 refine aB (fun s t H e=>match s with|s3a=>∃v1a:Nat,t 1=.ptr 1 v1a 0∧t 3=.int .i64 s3a∧H 1=some ⟨v1a,39,[.int .i64 p0.ah,.sl false false p0.aa.length (ae (eI .i64) p0.aa)],false,false,false⟩) (fun o x t H e=>match o with|(.inl _)=>x=.exit 0∧∃v1ax:Nat,t 1=.ptr 1 v1ax 0∧H 1=some ⟨v1ax,39,[.int .i64 p0.ah,.sl false false p0.aa.length (ae (eI .i64) p0.aa)],false,false,false⟩|(.inr r)=>x=.ret∧iP .clean tab none [.tmp 2] ⟨t,EH H,e⟩=some (.clean (.bool r),none)) ho5 ?_ ?_ ?_
 ·refine⟨0,?_,?_,?_⟩
  all_goals first|rfl|(simp only[w,seval]<;>rfl)
 ·rintro s3a t H e ⟨v1a,Za⟩ c hh
  simp only[yW]at hh
  try simp only[w,seval,Za]
  apply sp au hh<;>intro _ hh
  ·obtain⟨x7,hx7,hh⟩:=ag hh
   have ax7:=bm (eI .i64) hx7
   simp only[bo]at ax7
   try simp only[w,seval,Za,ax7]
   apply sp bc hh<;>intro _ hh
   ·cases hh
    try simp only[w,seval,Za,ax7]
    refine BI ⟨rfl,?_⟩
    try simp only[w,seval,Za,ax7]
   ·have ax7:=bm (eI .i64) hx7
    simp only[bo]at ax7
    try simp only[w,seval,Za,ax7,ax7]
    apply sp au hh<;>intro _ hh
    ·cases hh
     try simp only[w,seval,Za,ax7,ax7]
     refine BI ⟨rfl,?_⟩
     try simp only[w,seval,Za,ax7,ax7]
    ·cases hh
     try simp only[w,seval,Za,ax7,ax7]
     apply iC
     refine⟨v1a,?_,?_,?_⟩
     all_goals first|rfl|(simp only[w,seval,Za,ax7,ax7]<;>rfl)
  ·cases hh
   try simp only[w,seval,Za]
   apply jP
   refine⟨rfl,⟨v1a,?_,?_⟩⟩
   all_goals first|rfl|(simp only[w,seval,Za]<;>rfl)
 ·rintro x t H e hx
  rcases o5 with _|ra
  ·dsimp only at hx hh
   obtain⟨rfl,⟨v1ax,Zax⟩⟩:=hx
   try simp only[w,seval,Zax]
   obtain⟨o10,ho10,hh⟩:=ag hh
   refine bP 0 (fun s t H e=>match s with|s44j2=>∃v1j2:Nat,t 1=.ptr 1 v1j2 0∧t 4=.int .i64 (p0.aa.length:Int)∧t 44=.bool s44j2∧H 1=some ⟨v1j2,39,[.int .i64 p0.ah,.sl false false p0.aa.length (ae (eI .i64) p0.aa)],false,false,false⟩) (fun s=>s=o10) ?_ ?_
   ·rintro s44j2 t H e ⟨v1j2,Zj2⟩ rfl
    try dsimp only at hh
    try simp only[w,seval,Zj2]
    apply sp au hh<;>intro _ hh
    ·cases hh
     try simp only[w,seval,Zj2]
    ·try simp only[w,seval,Zj2]
     apply sp bc hh<;>intro _ hh
     ·cases hh
      try simp only[w,seval,Zj2]
     ·obtain⟨x13,hx13,hh⟩:=ag hh
      have ax13:=bm (eI .i64) hx13
      simp only[bo]at ax13
      cases hh
      try simp only[w,seval,Zj2,ax13]
   ·clear hh
    have hh:=ho10
    try simp only[w,seval,Zax]
    apply sp bc hh<;>intro _ hh
    ·cases hh
     try simp only[w,seval,Zax]
     rw[av]
     refine⟨_,rfl,?_⟩
     refine⟨v1ax,?_,?_,?_,?_⟩
     all_goals first|rfl|(simp only[w,seval,Zax]<;>rfl)
    ·try simp only[w,seval,Zax]
     apply sp bc hh<;>intro _ hh
     ·cases hh
      try simp only[w,seval,Zax]
      rw[av]
      refine⟨_,rfl,?_⟩
      refine⟨v1ax,?_,?_,?_,?_⟩
      all_goals first|rfl|(simp only[w,seval,Zax]<;>rfl)
     ·cases hh
      try simp only[w,seval,Zax]
      rw[av]
      refine⟨_,rfl,?_⟩
      refine⟨v1ax,?_,?_,?_,?_⟩
      all_goals first|rfl|(simp only[w,seval,Zax]<;>rfl)
  ·dsimp only at hx hh
   obtain⟨rfl,hE⟩:=hx
   cases hh
   try simp only[bn,bg,bB,dn,dm,ct,cu]
   exact hE
theorem oM:bT Try.prog 55 lr:=bT.of (mode := .clean) tok bq.none mixed Try.func55 (by kernel_rfl) ⟨by kernel_rfl,by kernel_rfl⟩ (fun _=>agv (by kernel_rfl)) (fun x r h=>NS x r h)
def zy:=fR (fH (dk fb)) (fun x:aq=>v8 x) (fun r:aq =>.clean (.agg [.int .i64 r.ah,.sl false false r.aa.length (ae (eI .i64) r.aa)]))
theorem Ij (p0_0:Int) (p0_1:(List Int)):zy none [.agg [.int .i64 p0_0,.sl false false p0_1.length (ae (eI .i64) p0_1)]]=(v8 (aq.mk p0_0 p0_1)).map fun r:aq=>(.clean (.agg [.int .i64 r.ah,.sl false false r.aa.length (ae (eI .i64) r.aa)]),none):=aN _ _ _ ((aq.mk p0_0 p0_1))
def vN:Env:=(Am.ext (Am.ext aY 55 false lr) 86 false mL)
theorem Qs:bq Try.prog vN:=((bq.none.add oM false).add qp false)
theorem Au:type_of% (ai @w<|ai @iJ<|ai @jU<|@vN.eq_1):=⟨@w,@iJ,@jU,@vN.eq_1⟩
theorem Ve (p0:aq) (r:aq) (hh:v8 p0=some r):a6 .clean tab vN FU Try.f100 none [.agg [.int .i64 p0.ah,.sl false false p0.aa.length (ae (eI .i64) p0.aa)]]=some (.clean (.agg [.int .i64 r.ah,.sl false false r.aa.length (ae (eI .i64) r.aa)]),none):=by
 apply aD rfl Try.ntmps100 Try.results100
 unfold v8 at hh
 obtain⟨r1,hr1,hh⟩:=ag hh
 try simp only[Au,seval,hr1]
 apply sp au hh<;>intro _ hh
 ·cases hh
  try simp only[Au,seval,hr1]
 ·obtain⟨r3,hr3,hh⟩:=ag hh
  cases hh
  try simp only[Au,seval,hr1,hr3]
theorem Q4:bT Try.prog 100 zy:=bT.of (mode := .clean) tok Qs mixed Try.func100 (by kernel_rfl) ⟨by kernel_rfl,by kernel_rfl⟩ (fun _=>agv (by kernel_rfl)) (fun x r h=>Ve x r h)
def lu:=fR (jE (lM (eI .i64)) (fH (aI .i64))) (fun x:(List Int)×Int=>jo x.1 x.2) (fun r:Int =>.clean (.int .i64 r))
theorem iK (p0:(List Int)) (p1:Int):lu none [.sl false false p0.length (ae (eI .i64) p0),.int .i64 p1]=(jo p0 p1).map fun r:Int=>(.clean (.int .i64 r),none):=aN _ _ _ (p0,p1)
theorem NT (p0:(List Int)) (p1:Int) (r:Int) (hh:jo p0 p1=some r):a6 .clean tab aY FU Try.f109 none [.sl false false p0.length (ae (eI .i64) p0),.int .i64 p1]=some (.clean (.int .i64 r),none):=by
 apply aD rfl Try.ntmps109 Try.results109
 unfold jo at hh
 try simp only[w,seval]
 apply sp au hh<;>intro _ hh
 ·obtain⟨x2,hx2,hh⟩:=ag hh
  have ax2:=bm (eI .i64) hx2
  simp only[bo]at ax2
  cases hh
  try simp only[w,seval,ax2]
 ·cases hh
  try simp only[w,seval]
theorem oN:bT Try.prog 109 lu:=bT.of (mode := .clean) tok bq.none mixed Try.func109 (by kernel_rfl) ⟨by kernel_rfl,by kernel_rfl⟩ (fun _=>agv (by kernel_rfl)) (fun x r h=>NT x.1 x.2 r h)
def tS:=fR (jE (lM (eI .i64)) (fH (lM (eI .i64)))) (fun x:(List Int)×(List Int)=>oV x.1 x.2) (fun r:(List Int) =>.clean (.sl false false r.length (ae (eI .i64) r)))
theorem uP (p0:(List Int)) (p1:(List Int)):tS none [.sl false false p0.length (ae (eI .i64) p0),.sl false false p1.length (ae (eI .i64) p1)]=(oV p0 p1).map fun r:(List Int)=>(.clean (.sl false false r.length (ae (eI .i64) r)),none):=aN _ _ _ (p0,p1)
def qm:Env:=(Am.ext (Am.ext aY 106 false kY) 109 false lu)
theorem JK:bq Try.prog qm:=((bq.none.add nQ false).add oN false)
theorem bO:type_of% (ai @w<|ai @fX<|ai @iK<|@qm.eq_1):=⟨@w,@fX,@iK,@qm.eq_1⟩
theorem NV (p0:(List Int)) (p1:(List Int)) (r:(List Int)) (hh:oV p0 p1=some r):a6 .clean tab qm FU Try.f107 none [.sl false false p0.length (ae (eI .i64) p0),.sl false false p1.length (ae (eI .i64) p1)]=some (.clean (.sl false false r.length (ae (eI .i64) r)),none):=by
 apply aD rfl Try.ntmps107 Try.results107
 unfold oV at hh
 obtain⟨x1,hx1,hh⟩:=ag hh
 obtain⟨q2a,q2b,q2c,q2d,q2e⟩:=mk_one (eI .i64) hx1
 simp only[bo]at q2d
 try simp only[bO,seval,q2a,q2b,q2c,q2d,q2e]
 obtain⟨o27,ho27,hh⟩:=ag hh
 refine aB (fun s t H e=>match s with|(s6a,l5a)=>∃v5a:Nat,t 0=.sl false false p0.length (ae (eI .i64) p0)∧t 1=.sl false false p1.length (ae (eI .i64) p1)∧t 5=.buf 5 v5a 1 0 (l5a).length∧t 6=.int .i64 s6a∧H 5=some ⟨v5a,3,ae (eI .i64) l5a,false,true,false⟩) (fun o x t H e=>match o with|l5ax=>x=.exit 0∧∃v5ax:Nat,t 5=.buf 5 v5ax 1 0 (l5ax).length∧H 5=some ⟨v5ax,3,ae (eI .i64) l5ax,false,true,false⟩) ho27 ?_ ?_ ?_
 ·refine⟨1,?_,?_,?_,?_,?_⟩
  all_goals first|rfl|(simp only[bO,seval,q2a,q2b,q2c,q2d,q2e]<;>rfl)
 ·rintro⟨s6a,l5a⟩ t H e ⟨v5a,Za⟩ c hh
  simp only[yY]at hh
  try simp only[bO,seval,q2a,q2b,q2c,q2d,q2e,Za]
  apply sp au hh<;>intro _ hh
  ·try simp only[bO,seval,q2a,q2b,q2c,q2d,q2e,Za]
   obtain⟨o40,ho40,hh⟩:=ag hh
   refine aB (fun s t H e=>match s with|(s7e,s8e,l5e)=>∃v5e:Nat,t 0=.sl false false p0.length (ae (eI .i64) p0)∧t 1=.sl false false p1.length (ae (eI .i64) p1)∧t 5=.buf 5 v5e 1 0 (l5e).length∧t 6=.int .i64 s6a∧t 7=.int .i64 s7e∧t 8=.int .i64 s8e∧H 5=some ⟨v5e,3,ae (eI .i64) l5e,false,true,false⟩) (fun o x t H e=>match o with|l5ex=>x=.exit 2∧∃v5ex:Nat,t 0=.sl false false p0.length (ae (eI .i64) p0)∧t 1=.sl false false p1.length (ae (eI .i64) p1)∧t 5=.buf 5 v5ex 1 0 (l5ex).length∧t 6=.int .i64 s6a∧H 5=some ⟨v5ex,3,ae (eI .i64) l5ex,false,true,false⟩) ho40 ?_ ?_ ?_
   ·refine⟨v5a,?_,?_,?_,?_,?_,?_,?_⟩
    all_goals first|rfl|(simp only[bO,seval,q2a,q2b,q2c,q2d,q2e,Za]<;>rfl)
   ·rintro⟨s7e,s8e,l5e⟩ t H e ⟨v5e,Ze⟩ c hh
    simp only[yZ]at hh
    try simp only[bO,seval,q2a,q2b,q2c,q2d,q2e,Ze]
    obtain⟨o41,ho41,hh⟩:=ag hh
    refine bP 0 (fun s t H e=>match s with|s29j7=>∃v5j7:Nat,t 0=.sl false false p0.length (ae (eI .i64) p0)∧t 1=.sl false false p1.length (ae (eI .i64) p1)∧t 5=.buf 5 v5j7 1 0 (l5e).length∧t 6=.int .i64 s6a∧t 7=.int .i64 s7e∧t 8=.int .i64 s8e∧t 29=.bool s29j7∧H 5=some ⟨v5j7,3,ae (eI .i64) l5e,false,true,false⟩) (fun s=>s=o41) ?_ ?_
    ·rintro s29j7 t H e ⟨v5j7,Zj7⟩ rfl
     try dsimp only at hh
     try simp only[bO,seval,q2a,q2b,q2c,q2d,q2e,Zj7]
     apply sp au hh<;>intro _ hh
     ·obtain⟨x43,hx43,hh⟩:=ag hh
      have ax43:=bm (eI .i64) hx43
      simp only[bo]at ax43
      obtain⟨x44,hx44,hh⟩:=ag hh
      have ax44:=bm (eI .i64) hx44
      simp only[bo]at ax44
      obtain⟨r45,hr45,hh⟩:=ag hh
      try simp only[bO,seval,q2a,q2b,q2c,q2d,q2e,Zj7,ax43,ax44,hr45]
      refine bF (by kernel_rfl) ?_
      obtain⟨x46,hx46,hh⟩:=ag hh
      have q47:=nw hx46
      have ax43:=bm (eI .i64) hx43
      simp only[bo]at ax43
      have p48:=dF (eI .i64) (x':=x46) (fo:=0) (cs:=[.int .i64 x46]) hx43 rfl (agv rfl)
      simp only[bo,Nat.add_zero]at p48
      have up48:=p48
      simp only[putCells,List.length_cons,List.length_nil,afB,Nat.reduceAdd]at up48
      obtain⟨x49,hx49,hh⟩:=ag hh
      have q50:=sb hx49
      cases hh
      try simp only[bO,seval,q2a,q2b,q2c,q2d,q2e,Zj7,ax43,ax44,hr45,q47,ax43,p48,up48,q50]
      apply iC
      refine⟨v5j7,?_,?_,?_,?_,?_,?_,?_⟩
      all_goals first|rfl|(simp only[bO,seval,q2a,q2b,q2c,q2d,q2e,Zj7,ax43,ax44,hr45,q47,ax43,p48,up48,q50]<;>rfl)
     ·cases hh
      try simp only[bO,seval,q2a,q2b,q2c,q2d,q2e,Zj7]
      apply jP
      refine⟨rfl,⟨v5j7,?_,?_,?_,?_,?_⟩⟩
      all_goals first|rfl|(simp only[bO,seval,q2a,q2b,q2c,q2d,q2e,Zj7]<;>rfl)
    ·clear hh
     have hh:=ho41
     try simp only[bO,seval,q2a,q2b,q2c,q2d,q2e,Ze]
     apply sp bc hh<;>intro _ hh
     ·cases hh
      try simp only[bO,seval,q2a,q2b,q2c,q2d,q2e,Ze]
      rw[av]
      refine⟨_,rfl,?_⟩
      refine⟨v5e,?_,?_,?_,?_,?_,?_,?_,?_⟩
      all_goals first|rfl|(simp only[bO,seval,q2a,q2b,q2c,q2d,q2e,Ze]<;>rfl)
     ·cases hh
      try simp only[bO,seval,q2a,q2b,q2c,q2d,q2e,Ze]
      rw[av]
      refine⟨_,rfl,?_⟩
      refine⟨v5e,?_,?_,?_,?_,?_,?_,?_,?_⟩
      all_goals first|rfl|(simp only[bO,seval,q2a,q2b,q2c,q2d,q2e,Ze]<;>rfl)
   ·rintro x t H e hx
    obtain⟨l5ex,rfl⟩:∃z,z=o40:=⟨_,rfl⟩
    dsimp only at hx hh
    obtain⟨rfl,⟨v5ex,Zex⟩⟩:=hx
    cases hh
    try simp only[bO,seval,q2a,q2b,q2c,q2d,q2e,Zex]
    apply iC
    refine⟨v5ex,?_,?_,?_,?_,?_⟩
    all_goals first|rfl|(simp only[bO,seval,q2a,q2b,q2c,q2d,q2e,Zex]<;>rfl)
  ·cases hh
   try simp only[bO,seval,q2a,q2b,q2c,q2d,q2e,Za]
   apply jP
   refine⟨rfl,⟨v5a,?_,?_⟩⟩
   all_goals first|rfl|(simp only[bO,seval,q2a,q2b,q2c,q2d,q2e,Za]<;>rfl)
 ·rintro x t H e hx
  obtain⟨l5ax,rfl⟩:∃z,z=o27:=⟨_,rfl⟩
  dsimp only at hx hh
  obtain⟨rfl,⟨v5ax,Zax⟩⟩:=hx
  obtain⟨r52,hr52,hh⟩:=ag hh
  cases hh
  try simp only[bO,seval,q2a,q2b,q2c,q2d,q2e,Zax,hr52]
theorem Ke:bT Try.prog 107 tS:=bT.of (mode := .clean) tok JK mixed Try.func107 (by kernel_rfl) ⟨by kernel_rfl,by kernel_rfl⟩ (fun _=>agv (by kernel_rfl)) (fun x r h=>NV x.1 x.2 r h)
def xb:=fR (jE (lM (eI .i64)) (fH (lM (eI .i64)))) (fun x:(List Int)×(List Int)=>uR x.1 x.2) (fun r:Bool =>.clean (.bool r))
theorem EJ (p0:(List Int)) (p1:(List Int)):xb none [.sl false false p0.length (ae (eI .i64) p0),.sl false false p1.length (ae (eI .i64) p1)]=(uR p0 p1).map fun r:Bool=>(.clean (.bool r),none):=aN _ _ _ (p0,p1)
def sr:Env:=(Am.ext aY 109 false lu)
theorem ML:bq Try.prog sr:=(bq.none.add oN false)
theorem gY:type_of% (ai @w<|ai @iK<|@sr.eq_1):=⟨@w,@iK,@sr.eq_1⟩
theorem QN (p0:(List Int)) (p1:(List Int)) (r:Bool) (hh:uR p0 p1=some r):a6 .clean tab sr FU Try.f88 none [.sl false false p0.length (ae (eI .i64) p0),.sl false false p1.length (ae (eI .i64) p1)]=some (.clean (.bool r),none):=by
 apply aD rfl Try.ntmps88 Try.results88
 unfold uR at hh
 try simp only[gY,seval]
 obtain⟨o5,ho5,hh⟩:=ag hh
 refine aB (fun s t H e=>match s with|s5a=>t 0=.sl false false p0.length (ae (eI .i64) p0)∧t 1=.sl false false p1.length (ae (eI .i64) p1)∧t 5=.int .i64 s5a) (fun o x t H e=>match o with|(.inl _)=>x=.exit 0|(.inr r)=>x=.ret∧iP .clean tab none [.tmp 4] ⟨t,EH H,e⟩=some (.clean (.bool r),none)) ho5 ?_ ?_ ?_
 ·refine⟨?_,?_,?_⟩
  all_goals first|rfl|(simp only[gY,seval]<;>rfl)
 ·rintro s5a t H e Za c hh
  simp only[Bh]at hh
  try simp only[gY,seval,Za]
  apply sp au hh<;>intro _ hh
  ·obtain⟨r7,hr7,hh⟩:=ag hh
   obtain⟨r8,hr8,hh⟩:=ag hh
   try simp only[gY,seval,Za,hr7,hr8]
   apply sp au hh<;>intro _ hh
   ·cases hh
    try simp only[gY,seval,Za,hr7,hr8]
    refine BI ⟨rfl,?_⟩
    try simp only[gY,seval,Za,hr7,hr8]
   ·cases hh
    try simp only[gY,seval,Za,hr7,hr8]
    apply iC
    refine⟨?_,?_,?_⟩
    all_goals first|rfl|(simp only[gY,seval,Za,hr7,hr8]<;>rfl)
  ·cases hh
   try simp only[gY,seval,Za]
   apply jP
   exact rfl
 ·rintro x t H e hx
  rcases o5 with _|ra
  ·dsimp only at hx hh
   subst hx
   cases hh
   try simp only[gY,seval]
  ·dsimp only at hx hh
   obtain⟨rfl,hE⟩:=hx
   cases hh
   try simp only[bn,bg,bB,dn,dm,ct,cu]
   exact hE
theorem Ox:bT Try.prog 88 xb:=bT.of (mode := .clean) tok ML mixed Try.func88 (by kernel_rfl) ⟨by kernel_rfl,by kernel_rfl⟩ (fun _=>agv (by kernel_rfl)) (fun x r h=>QN x.1 x.2 r h)
def pZ:=fR (jE (lM (eI .i64)) (fH (lM (eI .i64)))) (fun x:(List Int)×(List Int)=>oU x.1 x.2) (fun r:(List Int) =>.clean (.sl false false r.length (ae (eI .i64) r)))
theorem qw (p0:(List Int)) (p1:(List Int)):pZ none [.sl false false p0.length (ae (eI .i64) p0),.sl false false p1.length (ae (eI .i64) p1)]=(oU p0 p1).map fun r:(List Int)=>(.clean (.sl false false r.length (ae (eI .i64) r)),none):=aN _ _ _ (p0,p1)
def ql:Env:=(Am.ext (Am.ext aY 106 false kY) 109 false lu)
theorem JJ:bq Try.prog ql:=((bq.none.add nQ false).add oN false)
theorem eE:type_of% (ai @w<|ai @fX<|ai @iK<|@ql.eq_1):=⟨@w,@fX,@iK,@ql.eq_1⟩
theorem NU (p0:(List Int)) (p1:(List Int)) (r:(List Int)) (hh:oU p0 p1=some r):a6 .clean tab ql FU Try.f108 none [.sl false false p0.length (ae (eI .i64) p0),.sl false false p1.length (ae (eI .i64) p1)]=some (.clean (.sl false false r.length (ae (eI .i64) r)),none):=by
 apply aD rfl Try.ntmps108 Try.results108
 unfold oU at hh
 try simp only[eE,seval]
 obtain⟨o9,ho9,hh⟩:=ag hh
 refine aB (fun s t H e=>match s with|(s6a,s7a,l5a)=>∃v5a:Nat,t 0=.sl false false p0.length (ae (eI .i64) p0)∧t 1=.sl false false p1.length (ae (eI .i64) p1)∧t 5=.buf 5 v5a 1 0 (l5a).length∧t 6=.int .i64 s6a∧t 7=.int .i64 s7a∧H 5=some ⟨v5a,3,ae (eI .i64) l5a,false,true,false⟩) (fun o x t H e=>match o with|l5ax=>x=.exit 0∧∃v5ax:Nat,t 5=.buf 5 v5ax 1 0 (l5ax).length∧H 5=some ⟨v5ax,3,ae (eI .i64) l5ax,false,true,false⟩) ho9 ?_ ?_ ?_
 ·refine⟨1,?_,?_,?_,?_,?_,?_⟩
  all_goals first|rfl|(simp only[eE,seval]<;>rfl)
 ·rintro⟨s6a,s7a,l5a⟩ t H e ⟨v5a,Za⟩ c hh
  simp only[yX]at hh
  try simp only[eE,seval,Za]
  apply sp au hh<;>intro _ hh
  ·obtain⟨x11,hx11,hh⟩:=ag hh
   have ax11:=bm (eI .i64) hx11
   simp only[bo]at ax11
   obtain⟨r12,hr12,hh⟩:=ag hh
   try simp only[eE,seval,Za,ax11,hr12]
   refine bF (by kernel_rfl) ?_
   try simp only[eE,seval,Za,ax11,hr12]
   apply sp au hh<;>intro _ hh
   ·obtain⟨x14,hx14,hh⟩:=ag hh
    obtain⟨q15a,q15b,q15c,q15d⟩:=gI (eI .i64) hx14
    simp only[bo]at q15b
    cases hh
    try simp only[eE,seval,Za,ax11,hr12,q15a,q15b,q15c,q15d]
    apply iC
    refine⟨e+1+1+1+1+1+1,?_,?_,?_,?_,?_,?_⟩
    all_goals first|rfl|(simp only[eE,seval,Za,ax11,hr12,q15a,q15b,q15c,q15d]<;>rfl)
   ·obtain⟨x16,hx16,hh⟩:=ag hh
    obtain⟨q17a,q17b,q17c,q17d⟩:=gI (eI .i64) hx16
    simp only[bo]at q17b
    cases hh
    try simp only[eE,seval,Za,ax11,hr12,q17a,q17b,q17c,q17d]
    apply iC
    refine⟨e+1+1+1+1,?_,?_,?_,?_,?_,?_⟩
    all_goals first|rfl|(simp only[eE,seval,Za,ax11,hr12,q17a,q17b,q17c,q17d]<;>rfl)
  ·cases hh
   try simp only[eE,seval,Za]
   apply jP
   refine⟨rfl,⟨v5a,?_,?_⟩⟩
   all_goals first|rfl|(simp only[eE,seval,Za]<;>rfl)
 ·rintro x t H e hx
  obtain⟨l5ax,rfl⟩:∃z,z=o9:=⟨_,rfl⟩
  dsimp only at hx hh
  obtain⟨rfl,⟨v5ax,Zax⟩⟩:=hx
  obtain⟨r18,hr18,hh⟩:=ag hh
  cases hh
  try simp only[eE,seval,Zax,hr18]
theorem yO:bT Try.prog 108 pZ:=bT.of (mode := .clean) tok JJ mixed Try.func108 (by kernel_rfl) ⟨by kernel_rfl,by kernel_rfl⟩ (fun _=>agv (by kernel_rfl)) (fun x r h=>NU x.1 x.2 r h)
def rJ:=fR (jE (lM (eI .i64)) (fH (lM (eI .i64)))) (fun x:(List Int)×(List Int)=>ru x.1 x.2) (fun r:(List Int)×(List Int) =>.clean (.tup [.sl false false r.1.length (ae (eI .i64) r.1),.sl false false r.2.length (ae (eI .i64) r.2)]))
theorem sL (p0:(List Int)) (p1:(List Int)):rJ none [.sl false false p0.length (ae (eI .i64) p0),.sl false false p1.length (ae (eI .i64) p1)]=(ru p0 p1).map fun r:(List Int)×(List Int)=>(.clean (.tup [.sl false false r.1.length (ae (eI .i64) r.1),.sl false false r.2.length (ae (eI .i64) r.2)]),none):=aN _ _ _ (p0,p1)
def su:Env:=(Am.keep 7 (Am.ext (Am.ext (Am.ext (Am.ext aY 88 false xb) 106 false kY) 107 false tS) 108 false pZ))
theorem MN:bq Try.prog su:=(bq.keep ((((bq.none.add Ox false).add nQ false).add Ke false).add yO false) 7)
theorem cN:type_of% (ai @w<|ai @EJ<|ai @fX<|ai @uP<|ai @qw<|@su.eq_1):=⟨@w,@EJ,@fX,@uP,@qw,@su.eq_1⟩
theorem QP (p0:(List Int)) (p1:(List Int)) (r:(List Int)×(List Int)) (hh:ru p0 p1=some r):a6 .clean tab su FU Try.f85 none [.sl false false p0.length (ae (eI .i64) p0),.sl false false p1.length (ae (eI .i64) p1)]=some (.clean (.tup [.sl false false r.1.length (ae (eI .i64) r.1),.sl false false r.2.length (ae (eI .i64) r.2)]),none):=by
 apply aD rfl Try.ntmps85 Try.results85
 unfold ru at hh
 obtain⟨x1,hx1,hh⟩:=ag hh
 obtain⟨q2a,q2b,q2c,q2d,q2e⟩:=mk_one (eI .i64) hx1
 simp only[bo]at q2d
 try simp only[cN,seval,q2a,q2b,q2c,q2d,q2e]
 obtain⟨o29,ho29,hh⟩:=ag hh
 refine aB (fun s t H e=>match s with|(s7a,s8a,l6a)=>∃v6a:Nat,t 0=.sl false false p0.length (ae (eI .i64) p0)∧t 1=.sl false false p1.length (ae (eI .i64) p1)∧t 6=.buf 6 v6a 1 0 (l6a).length∧t 7=.sl false false s7a.length (ae (eI .i64) s7a)∧t 8=.int .i64 s8a∧H 6=some ⟨v6a,3,ae (eI .i64) l6a,false,true,false⟩) (fun o x t H e=>match o with|(s7ax,l6ax)=>x=.exit 0∧∃v6ax:Nat,t 6=.buf 6 v6ax 1 0 (l6ax).length∧t 7=.sl false false s7ax.length (ae (eI .i64) s7ax)∧H 6=some ⟨v6ax,3,ae (eI .i64) l6ax,false,true,false⟩) ho29 ?_ ?_ ?_
 ·refine⟨1,?_,?_,?_,?_,?_,?_⟩
  all_goals first|rfl|(simp only[cN,seval,q2a,q2b,q2c,q2d,q2e]<;>rfl)
 ·rintro⟨s7a,s8a,l6a⟩ t H e ⟨v6a,Za⟩ c hh
  simp only[Bi]at hh
  try simp only[cN,seval,q2a,q2b,q2c,q2d,q2e,Za]
  apply sp au hh<;>intro _ hh
  ·obtain⟨x31,hx31,hh⟩:=ag hh
   have ax31:=bm (eI .i64) hx31
   simp only[bo]at ax31
   obtain⟨x32,hx32,hh⟩:=ag hh
   obtain⟨q33a,q33b,q33c,q33d⟩:=Zp (eI .i64) hx32
   simp only[a7,bo,List.length_cons,afB,Nat.reduceAdd]at q33a q33b
   obtain⟨r34,hr34,hh⟩:=ag hh
   try simp only[cN,seval,q2a,q2b,q2c,q2d,q2e,Za,ax31,q33a,q33b,q33c,q33d,hr34]
   obtain⟨o42,ho42,hh⟩:=ag hh
   refine aB (fun s t H e=>match s with|(s9c,s10c)=>∃v6c:Nat,t 0=.sl false false p0.length (ae (eI .i64) p0)∧t 1=.sl false false p1.length (ae (eI .i64) p1)∧t 6=.buf 6 v6c 1 0 (l6a).length∧t 7=.sl false false r34.length (ae (eI .i64) r34)∧t 8=.int .i64 s8a∧t 9=.int .i64 s9c∧t 10=.int .i64 s10c∧H 6=some ⟨v6c,3,ae (eI .i64) l6a,false,true,false⟩) (fun o x t H e=>match o with|s9cx=>x=.exit 2∧∃v6cx:Nat,t 0=.sl false false p0.length (ae (eI .i64) p0)∧t 1=.sl false false p1.length (ae (eI .i64) p1)∧t 6=.buf 6 v6cx 1 0 (l6a).length∧t 7=.sl false false r34.length (ae (eI .i64) r34)∧t 8=.int .i64 s8a∧t 9=.int .i64 s9cx∧H 6=some ⟨v6cx,3,ae (eI .i64) l6a,false,true,false⟩) ho42 ?_ ?_ ?_
   ·refine⟨v6a,?_,?_,?_,?_,?_,?_,?_,?_⟩
    all_goals first|rfl|(simp only[cN,seval,q2a,q2b,q2c,q2d,q2e,Za,ax31,q33a,q33b,q33c,q33d,hr34]<;>rfl)
   ·rintro⟨s9c,s10c⟩ t H e ⟨v6c,Zc⟩ c hh
    simp only[Bj]at hh
    try simp only[cN,seval,q2a,q2b,q2c,q2d,q2e,ax31,q33a,q33b,q33c,q33d,hr34,Zc]
    apply sp au hh<;>intro _ hh
    ·obtain⟨x44,hx44,hh⟩:=ag hh
     have q45:=sb hx44
     have i46:=uP p1 ([x44])
     simp only[a7,bo,List.length_cons,List.length_nil,afB,Nat.reduceAdd,agN]at i46
     obtain⟨r47,hr47,hh⟩:=ag hh
     obtain⟨r48,hr48,hh⟩:=ag hh
     try simp only[cN,seval,q2a,q2b,q2c,q2d,q2e,ax31,q33a,q33b,q33c,q33d,hr34,Zc,q45,i46,hr47,hr48]
     apply sp au hh<;>intro _ hh
     ·cases hh
      try simp only[cN,seval,q2a,q2b,q2c,q2d,q2e,ax31,q33a,q33b,q33c,q33d,hr34,Zc,q45,i46,hr47,hr48]
      apply iC
      refine⟨v6c,?_,?_,?_,?_,?_,?_,?_,?_⟩
      all_goals first|rfl|(simp only[cN,seval,q2a,q2b,q2c,q2d,q2e,ax31,q33a,q33b,q33c,q33d,hr34,Zc,q45,i46,hr47,hr48]<;>rfl)
     ·cases hh
      try simp only[cN,seval,q2a,q2b,q2c,q2d,q2e,ax31,q33a,q33b,q33c,q33d,hr34,Zc,q45,i46,hr47,hr48]
      apply iC
      refine⟨v6c,?_,?_,?_,?_,?_,?_,?_,?_⟩
      all_goals first|rfl|(simp only[cN,seval,q2a,q2b,q2c,q2d,q2e,ax31,q33a,q33b,q33c,q33d,hr34,Zc,q45,i46,hr47,hr48]<;>rfl)
    ·cases hh
     try simp only[cN,seval,q2a,q2b,q2c,q2d,q2e,ax31,q33a,q33b,q33c,q33d,hr34,Zc]
     apply jP
     refine⟨rfl,⟨v6c,?_,?_,?_,?_,?_,?_,?_⟩⟩
     all_goals first|rfl|(simp only[cN,seval,q2a,q2b,q2c,q2d,q2e,ax31,q33a,q33b,q33c,q33d,hr34,Zc]<;>rfl)
   ·rintro x t H e hx
    obtain⟨s9cx,rfl⟩:∃z,z=o42:=⟨_,rfl⟩
    dsimp only at hx hh
    obtain⟨rfl,⟨v6cx,Zcx⟩⟩:=hx
    obtain⟨x50,hx50,hh⟩:=ag hh
    have ax50:=bm (eI .i64) hx50
    simp only[bo]at ax50
    have p51:=dF (eI .i64) (x':=s9cx) (fo:=0) (cs:=[.int .i64 s9cx]) hx50 rfl (agv rfl)
    simp only[bo,Nat.add_zero]at p51
    have up51:=p51
    simp only[putCells,List.length_cons,List.length_nil,afB,Nat.reduceAdd]at up51
    have i52:=fX ([s9cx])
    simp only[a7,bo,List.length_cons,List.length_nil,afB,Nat.reduceAdd,agN]at i52
    obtain⟨r53,hr53,hh⟩:=ag hh
    obtain⟨r54,hr54,hh⟩:=ag hh
    obtain⟨r55,hr55,hh⟩:=ag hh
    cases hh
    try simp only[cN,seval,q2a,q2b,q2c,q2d,q2e,ax31,q33a,q33b,q33c,q33d,hr34,Zcx,ax50,p51,up51,i52,hr53,hr54,hr55]
    apply iC
    refine⟨v6cx,?_,?_,?_,?_,?_,?_⟩
    all_goals first|rfl|(simp only[cN,seval,q2a,q2b,q2c,q2d,q2e,ax31,q33a,q33b,q33c,q33d,hr34,Zcx,ax50,p51,up51,i52,hr53,hr54,hr55]<;>rfl)
  ·cases hh
   try simp only[cN,seval,q2a,q2b,q2c,q2d,q2e,Za]
   apply jP
   refine⟨rfl,⟨v6a,?_,?_,?_⟩⟩
   all_goals first|rfl|(simp only[cN,seval,q2a,q2b,q2c,q2d,q2e,Za]<;>rfl)
 ·rintro x t H e hx
  rcases o29 with⟨s7ax,l6ax⟩
  dsimp only at hx hh
  obtain⟨rfl,⟨v6ax,Zax⟩⟩:=hx
  obtain⟨r56,hr56,hh⟩:=ag hh
  cases hh
  try simp only[cN,seval,q2a,q2b,q2c,q2d,q2e,Zax,hr56]
theorem A9:bT Try.prog 85 rJ:=bT.of (mode := .clean) tok MN mixed Try.func85 (by kernel_rfl) ⟨by kernel_rfl,by kernel_rfl⟩ (fun _=>agv (by kernel_rfl)) (fun x r h=>QP x.1 x.2 r h)
def zx:=fR (jE (dk fb) (fH (dk fb))) (fun x:aq×aq=>yV x.1 x.2) (fun r:aq×Int =>.clean (.tup [.agg [.int .i64 r.1.ah,.sl false false r.1.aa.length (ae (eI .i64) r.1.aa)],.int .i64 r.2]))
theorem Ii (p0_0:Int) (p0_1:(List Int)) (p1_0:Int) (p1_1:(List Int)):zx none [.agg [.int .i64 p0_0,.sl false false p0_1.length (ae (eI .i64) p0_1)],.agg [.int .i64 p1_0,.sl false false p1_1.length (ae (eI .i64) p1_1)]]=(yV (aq.mk p0_0 p0_1) (aq.mk p1_0 p1_1)).map fun r:aq×Int=>(.clean (.tup [.agg [.int .i64 r.1.ah,.sl false false r.1.aa.length (ae (eI .i64) r.1.aa)],.int .i64 r.2]),none):=aN _ _ _ ((aq.mk p0_0 p0_1),(aq.mk p1_0 p1_1))
def vM:Env:=(Am.ext (Am.ext (Am.ext aY 55 false lr) 85 false rJ) 86 false mL)
theorem Qr:bq Try.prog vM:=(((bq.none.add oM false).add A9 false).add qp false)
theorem eB:type_of% (ai @w<|ai @iJ<|ai @sL<|ai @jU<|@vM.eq_1):=⟨@w,@iJ,@sL,@jU,@vM.eq_1⟩
theorem Vd (p0:aq) (p1:aq) (r:aq×Int) (hh:yV p0 p1=some r):a6 .clean tab vM FU Try.f56 none [.agg [.int .i64 p0.ah,.sl false false p0.aa.length (ae (eI .i64) p0.aa)],.agg [.int .i64 p1.ah,.sl false false p1.aa.length (ae (eI .i64) p1.aa)]]=some (.clean (.tup [.agg [.int .i64 r.1.ah,.sl false false r.1.aa.length (ae (eI .i64) r.1.aa)],.int .i64 r.2]),none):=by
 apply aD rfl Try.ntmps56 Try.results56
 unfold yV at hh
 obtain⟨r1,hr1,hh⟩:=ag hh
 try simp only[eB,seval,hr1]
 obtain⟨o2,ho2,hh⟩:=ag hh
 refine bP 0 (fun s t H e=>match s with|s17j1=>∃v2j1:Nat,∃v3j1:Nat,∃v4j1:Nat,t 2=.ptr 2 v2j1 0∧t 3=.ptr 3 v3j1 0∧t 4=.ptr 4 v4j1 0∧t 17=.bool s17j1∧H 2=some ⟨v2j1,39,[.int .i64 p0.ah,.sl false false p0.aa.length (ae (eI .i64) p0.aa)],false,false,false⟩∧H 3=some ⟨v3j1,39,[.int .i64 p1.ah,.sl false false p1.aa.length (ae (eI .i64) p1.aa)],false,false,false⟩∧H 4=some ⟨v4j1,39,[.int .i64 0,.sl true true 0 []],false,false,false⟩) (fun s=>s=o2) ?_ ?_
 ·rintro s17j1 t H e ⟨v2j1,v3j1,v4j1,Zj1⟩ rfl
  try dsimp only at hh
  try simp only[eB,seval,hr1,Zj1]
  apply sp au hh<;>intro _ hh
  ·cases hh
   try simp only[eB,seval,hr1,Zj1]
  ·try simp only[eB,seval,hr1,Zj1]
   obtain⟨o6,ho6,hh⟩:=ag hh
   refine aB (fun s t H e=>match s with|(s6b,s7b)=>∃v4b:Nat,t 4=.ptr 4 v4b 0∧t 6=.sl false false s6b.length (ae (eI .i64) s6b)∧t 7=.sl false false s7b.length (ae (eI .i64) s7b)∧H 4=some ⟨v4b,39,[.int .i64 0,.sl true true 0 []],false,false,false⟩) (fun o x t H e=>match o with|s6bx=>x=.exit 0∧∃v4bx:Nat,t 4=.ptr 4 v4bx 0∧t 6=.sl false false s6bx.length (ae (eI .i64) s6bx)∧H 4=some ⟨v4bx,39,[.int .i64 0,.sl true true 0 []],false,false,false⟩) ho6 ?_ ?_ ?_
   ·refine⟨v4j1,?_,?_,?_,?_⟩
    all_goals first|rfl|(simp only[eB,seval,hr1,Zj1]<;>rfl)
   ·rintro⟨s6b,s7b⟩ t H e ⟨v4b,Zb⟩ c hh
    simp only[EL]at hh
    try simp only[eB,seval,hr1,Zb]
    apply sp au hh<;>intro _ hh
    ·obtain⟨r8,hr8,hh⟩:=ag hh
     cases hh
     try simp only[eB,seval,hr1,Zb,hr8]
     apply iC
     refine⟨v4b,?_,?_,?_,?_⟩
     all_goals first|rfl|(simp only[eB,seval,hr1,Zb,hr8]<;>rfl)
    ·cases hh
     try simp only[eB,seval,hr1,Zb]
     apply jP
     refine⟨rfl,⟨v4b,?_,?_,?_⟩⟩
     all_goals first|rfl|(simp only[eB,seval,hr1,Zb]<;>rfl)
   ·rintro x t H e hx
    obtain⟨s6bx,rfl⟩:∃z,z=o6:=⟨_,rfl⟩
    dsimp only at hx hh
    obtain⟨rfl,⟨v4bx,Zbx⟩⟩:=hx
    obtain⟨r9,hr9,hh⟩:=ag hh
    cases hh
    try simp only[eB,seval,hr1,Zbx,hr9]
 ·clear hh
  have hh:=ho2
  try simp only[eB,seval,hr1]
  apply sp bc hh<;>intro _ hh
  ·cases hh
   try simp only[eB,seval,hr1]
   rw[av]
   refine⟨_,rfl,?_⟩
   refine⟨0,0,0,?_,?_,?_,?_,?_,?_,?_⟩
   all_goals first|rfl|(simp only[eB,seval,hr1]<;>rfl)
  ·obtain⟨r11,hr11,hh⟩:=ag hh
   cases hh
   try simp only[eB,seval,hr1,hr11]
   rw[av]
   refine⟨_,rfl,?_⟩
   refine⟨0,0,0,?_,?_,?_,?_,?_,?_,?_⟩
   all_goals first|rfl|(simp only[eB,seval,hr1,hr11]<;>rfl)
theorem Q3:bT Try.prog 56 zx:=bT.of (mode := .clean) tok Qr mixed Try.func56 (by kernel_rfl) ⟨by kernel_rfl,by kernel_rfl⟩ (fun _=>agv (by kernel_rfl)) (fun x r h=>Vd x.1 x.2 r h)
def xc:=fR (jE (lM (eI .i64)) (fH (lM (eI .i64)))) (fun x:(List Int)×(List Int)=>uS x.1 x.2) (fun r:(List Int) =>.clean (.sl false false r.length (ae (eI .i64) r)))
theorem xC (p0:(List Int)) (p1:(List Int)):xc none [.sl false false p0.length (ae (eI .i64) p0),.sl false false p1.length (ae (eI .i64) p1)]=(uS p0 p1).map fun r:(List Int)=>(.clean (.sl false false r.length (ae (eI .i64) r)),none):=aN _ _ _ (p0,p1)
def sv:Env:=(Am.ext (Am.ext aY 106 false kY) 109 false lu)
theorem MO:bq Try.prog sv:=((bq.none.add nQ false).add oN false)
theorem cZ:type_of% (ai @w<|ai @fX<|ai @iK<|@sv.eq_1):=⟨@w,@fX,@iK,@sv.eq_1⟩
theorem QQ (p0:(List Int)) (p1:(List Int)) (r:(List Int)) (hh:uS p0 p1=some r):a6 .clean tab sv FU Try.f116 none [.sl false false p0.length (ae (eI .i64) p0),.sl false false p1.length (ae (eI .i64) p1)]=some (.clean (.sl false false r.length (ae (eI .i64) r)),none):=by
 apply aD rfl Try.ntmps116 Try.results116
 unfold uS at hh
 try simp only[cZ,seval]
 obtain⟨o13,ho13,hh⟩:=ag hh
 refine aB (fun s t H e=>match s with|(s6a,s7a,l5a)=>∃v5a:Nat,t 0=.sl false false p0.length (ae (eI .i64) p0)∧t 1=.sl false false p1.length (ae (eI .i64) p1)∧t 5=.buf 5 v5a 1 0 (l5a).length∧t 6=.int .i64 s6a∧t 7=.int .i64 s7a∧H 5=some ⟨v5a,3,ae (eI .i64) l5a,false,true,false⟩) (fun o x t H e=>match o with|l5ax=>x=.exit 0∧∃v5ax:Nat,t 5=.buf 5 v5ax 1 0 (l5ax).length∧H 5=some ⟨v5ax,3,ae (eI .i64) l5ax,false,true,false⟩) ho13 ?_ ?_ ?_
 ·refine⟨1,?_,?_,?_,?_,?_,?_⟩
  all_goals first|rfl|(simp only[cZ,seval]<;>rfl)
 ·rintro⟨s6a,s7a,l5a⟩ t H e ⟨v5a,Za⟩ c hh
  simp only[Bk]at hh
  try simp only[cZ,seval,Za]
  obtain⟨o14,ho14,hh⟩:=ag hh
  refine bP 0 (fun s t H e=>match s with|s22j3=>∃v5j3:Nat,t 0=.sl false false p0.length (ae (eI .i64) p0)∧t 1=.sl false false p1.length (ae (eI .i64) p1)∧t 5=.buf 5 v5j3 1 0 (l5a).length∧t 6=.int .i64 s6a∧t 7=.int .i64 s7a∧t 22=.bool s22j3∧H 5=some ⟨v5j3,3,ae (eI .i64) l5a,false,true,false⟩) (fun s=>s=o14) ?_ ?_
  ·rintro s22j3 t H e ⟨v5j3,Zj3⟩ rfl
   try dsimp only at hh
   try simp only[cZ,seval,Zj3]
   apply sp au hh<;>intro _ hh
   ·obtain⟨r16,hr16,hh⟩:=ag hh
    obtain⟨r17,hr17,hh⟩:=ag hh
    obtain⟨x18,hx18,hh⟩:=ag hh
    have q19:=nw hx18
    obtain⟨x20,hx20,hh⟩:=ag hh
    obtain⟨q21a,q21b,q21c,q21d⟩:=gI (eI .i64) hx20
    simp only[bo]at q21b
    obtain⟨x22,hx22,hh⟩:=ag hh
    have q23:=sb hx22
    cases hh
    try simp only[cZ,seval,Zj3,hr16,hr17,q19,q21a,q21b,q21c,q21d,q23]
    apply iC
    refine⟨e+1,?_,?_,?_,?_,?_,?_⟩
    all_goals first|rfl|(simp only[cZ,seval,Zj3,hr16,hr17,q19,q21a,q21b,q21c,q21d,q23]<;>rfl)
   ·cases hh
    try simp only[cZ,seval,Zj3]
    apply jP
    refine⟨rfl,⟨v5j3,?_,?_⟩⟩
    all_goals first|rfl|(simp only[cZ,seval,Zj3]<;>rfl)
  ·clear hh
   have hh:=ho14
   try simp only[cZ,seval,Za]
   apply sp bc hh<;>intro _ hh
   ·cases hh
    try simp only[cZ,seval,Za]
    rw[av]
    refine⟨_,rfl,?_⟩
    refine⟨v5a,?_,?_,?_,?_,?_,?_,?_⟩
    all_goals first|rfl|(simp only[cZ,seval,Za]<;>rfl)
   ·try simp only[cZ,seval,Za]
    apply sp bc hh<;>intro _ hh
    ·cases hh
     try simp only[cZ,seval,Za]
     rw[av]
     refine⟨_,rfl,?_⟩
     refine⟨v5a,?_,?_,?_,?_,?_,?_,?_⟩
     all_goals first|rfl|(simp only[cZ,seval,Za]<;>rfl)
    ·cases hh
     try simp only[cZ,seval,Za]
     rw[av]
     refine⟨_,rfl,?_⟩
     refine⟨v5a,?_,?_,?_,?_,?_,?_,?_⟩
     all_goals first|rfl|(simp only[cZ,seval,Za]<;>rfl)
 ·rintro x t H e hx
  obtain⟨l5ax,rfl⟩:∃z,z=o13:=⟨_,rfl⟩
  dsimp only at hx hh
  obtain⟨rfl,⟨v5ax,Zax⟩⟩:=hx
  obtain⟨r26,hr26,hh⟩:=ag hh
  cases hh
  try simp only[cZ,seval,Zax,hr26]
theorem Oy:bT Try.prog 116 xc:=bT.of (mode := .clean) tok MO mixed Try.func116 (by kernel_rfl) ⟨by kernel_rfl,by kernel_rfl⟩ (fun _=>agv (by kernel_rfl)) (fun x r h=>QQ x.1 x.2 r h)
def zw:=fR (jE (dk fb) (fH (dk fb))) (fun x:aq×aq=>v7 x.1 x.2) (fun r:aq×aq×Int =>.clean (.tup [.agg [.int .i64 r.1.ah,.sl false false r.1.aa.length (ae (eI .i64) r.1.aa)],.agg [.int .i64 r.2.1.ah,.sl false false r.2.1.aa.length (ae (eI .i64) r.2.1.aa)],.int .i64 r.2.2]))
end Go.Proofs.Ytchndpjlijbplaa.Am
