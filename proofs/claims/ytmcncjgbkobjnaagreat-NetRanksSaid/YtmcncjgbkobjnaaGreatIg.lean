/- Part of a proof. -/
import Derived.Test.YtmcncjgbkobjnaaGreatIf
set_option linter.unusedSimpArgs false
set_option linter.unusedVariables false
noncomputable section
namespace Go.Proofs.YtmcncjgbkobjnaaGreat.Am
open Go.ChangeShapes Go.WideShapes Go.ChangeAt Go.RowKit Go.Proofs.YtmcncjgbkobjnaaGreat.P
set_option maxRecDepth 100000
theorem Tryz.own:ownKnob Tryz.prog.godebug=none:=by kernel_rfl
theorem Tryz.laidOut:laidOutB Tryz.prog=true:=by kernel_rfl
theorem Yr (n:Nat):RS tab (n+1) 3 (eI .i64) (fun x=>(Lit.int .i64 x).wf=true):=opI Ue rfl rfl
theorem adt (n:Nat):RS tab (n+2) 22 (kV (eI .i64)) (fun x=>(x.length*8<=140737488351232∧∀y∈x,(Lit.int .i64 y).wf=true)):=ads Kn rfl rfl (by rw[Ue];rfl) (Yr n)
def J2 (x:aj):Prop:=(Lit.int .i64 x.ae).wf=true∧((x.aa.length*8<=140737488351232∧∀y∈x.aa,(Lit.int .i64 y).wf=true))
theorem abx (n:Nat):RS tab (n+3) 40 dw (fun x=>J2 x):=opS (g:=fun y=>aj.mk y.1 y.2) Rh rfl rfl (fun _=>rfl) (Yq (Yr (n+1)) rfl (aaA (adt n)))
def Of (x:ao):Prop:=J2 x.aZ∧(J2 x.aX)
theorem adw (n:Nat):RS tab (n+4) 42 aB (fun x=>Of x):=opS (g:=fun y=>ao.mk y.1 y.2) Ri rfl rfl (fun _=>rfl) (Yq (abx n) rfl (aaA (abx n)))
def DR (x:bI):Prop:=(Lit.int .i64 x.bT).wf=true∧((Lit.int .i64 x.gD).wf=true∧(Of x.bR))
theorem adx (n:Nat):RS tab (n+5) 63 aR (fun x=>DR x):=opS (g:=fun y=>bI.mk y.1 y.2.1 y.2.2) Kp rfl rfl (fun _=>rfl) (Yq (Yr (n+3)) rfl (Yq (Yr (n+3)) rfl (aaA (adw n))))
theorem adu (n:Nat):RS tab (n+6) 26 (kV aR) (fun x=>(x.length*80<=140737488351232∧∀y∈x,DR y)):=ads Rg rfl rfl (by rw[Kp];rfl) (adx n)
def By (x:cz):Prop:=(Lit.int .i64 x.aC).wf=true∧((x.aw.length*80<=140737488351232∧∀y∈x.aw,DR y))
theorem adv (n:Nat):RS tab (n+7) 28 pJ (fun x=>By x):=opS (g:=fun y=>cz.mk y.1 y.2) Ko rfl rfl (fun _=>rfl) (Yq (Yr (n+5)) rfl (aaA (adu n)))
theorem wD:abP tab 8 [28] (eQ (bL pJ)) (fun x=>By x):=(aeQ (oaS Ko rfl (adv 1)))
theorem vo (law:∀(a0:cz),(By a0)->P.gM a0=some true) (os:Os) (started:os.Started) (H:Type) (enc:TypeId×Value->H) :
  ReturnsInHanded {} Tryz.checked os 5 .any (Rows.netRanksSpec.pre6 enc Tryz.prog Tryz.f5 Rows.netRanksRow.domain false) (Rows.netRanksSpec.post enc Tryz.prog Tryz.f5 false true false false):=by
 refine Q9 (C:=Tryz.checked) (T:=tab) (tb:=4) (n:=8) tok Tryz.own started (by kernel_rfl) Tryz.func5
  (ChangeSpec.witness6 (enc:=enc) (C:=Tryz.checked) false ⟨#[],#[.agg #[.int .i64 0,.slice none 0 0]],[]⟩ 8 (by kernel_rfl) (by kernel_rfl) (by kernel_rfl) (by kernel_rfl)) Tryz.laidOut (by kernel_rfl) rfl (by kernel_rfl) rfl (fun ds hds =>?_) (fun ar hl hs =>?_)
 ·rw[Tryz.params5]at hds
  match ds,hds with
  | [d0],_=>exact⟨rfl,rfl,rfl⟩
 ·rw[Tryz.params5]at hl hs
  exact ab7 wD Be (fun x hx=>law x hx) ar hl hs
theorem wy (law:∀(a0:cz),(By a0)->P.gM a0=some true):Rows.NetRanksSaid :=
 OpenClaim.holds_of_wide 5 Tryz.f5 rfl rfl rfl rfl rfl rfl rfl ⟨rfl,rfl,rfl,rfl,rfl⟩ rfl rfl rfl rfl rfl (by kernel_rfl) Tryz.func5 (by kernel_rfl)
  (of_decide_eq_true (by kernel_rfl)) (by unfold Func.isWrapper;first|(rw[if_pos (by decide +kernel)];kernel_rfl)|(rw[if_neg (by decide +kernel)];exact⟨rfl,rfl⟩))
  (fun os started H enc _=>vo law os started H enc)
end Go.Proofs.YtmcncjgbkobjnaaGreat.Am
namespace Go.Proofs.YtmcncjgbkobjnaaGreat.P
open Go.RowKit
def bc (n:Nat):List Int:=if h:n=0 then [] else ((n % 1048576:Nat):Int)::bc (n / 1048576)
termination_by n
decreasing_by omega
def dv:List Int->Int
 | []=>0
 | d::l=>d+1048576*dv l
def Dg (l:List Int):Prop:=∀d∈l,0<=d∧d<1048576
def pw (i:Nat):Int:=1048576 ^ i
theorem rq:pw 0=1:=rfl
theorem lO (i:Nat):pw (i+1)=1048576*pw i:=by unfold pw;rw[Int.pow_succ,ahB]
theorem oa (i:Nat):0<pw i:=by unfold pw;exact Int.pow_pos (by decide)
theorem Ke (i j:Nat):pw (i+j)=pw i*pw j:=by unfold pw;rw[Int.pow_add]
theorem rp {i j:Nat} (h:i<=j):pw i<=pw j:=by
 obtain⟨k,rfl⟩:=Nat.le.dest h
 rw[Ke]
 have h1:=oa i
 have h2:=oa k
 calc pw i=pw i*1:=by rw[ahC]
  _<=pw i*pw k:=ahD (by omega) (by omega)
theorem cT:bc 0=[]:=by rw[bc];rfl
theorem lW {n:Nat} (h:n≠0):bc n=((n % 1048576:Nat):Int)::bc (n / 1048576):=by rw[bc,dif_neg h]
theorem sM {n:Nat} : bc n=[]↔n=0:=by
 constructor
 ·intro h
  rcases afN n with h0|h0
  ·exact h0
  ·rw[lW (by omega)]at h;cases h
 ·rintro rfl;exact cT
theorem bY:∀n:Nat,dv (bc n)=n:=by
 intro n
 induction n using Nat.strongRecOn with
 | _ n ih =>
  rcases afN n with h0|h0
  ·subst h0;rw[cT];rfl
  ·rw[lW (by omega),dv,ih (n / 1048576) (by omega)]
   omega
theorem dQ:∀n:Nat,Dg (bc n):=by
 intro n
 induction n using Nat.strongRecOn with
 | _ n ih =>
  rcases afN n with h0|h0
  ·subst h0;rw[cT];intro d hd;cases hd
  ·rw[lW (by omega)]
   intro d hd
   rcases afC.1 hd with rfl|hd
   ·omega
   ·exact ih (n / 1048576) (by omega) d hd
theorem Dg.nil:Dg []:=fun d hd=>by cases hd
theorem Dg.cons {d:Int} {l:List Int} (h:Dg (d::l)):(0<=d∧d<1048576)∧Dg l:=⟨h d ag2,fun x hx=>h x (ag3 _ hx)⟩
theorem Dg.mk {d:Int} {l:List Int} (h:0<=d∧d<1048576) (hl:Dg l):Dg (d::l):=fun x hx=>by
 rcases afC.1 hx with rfl|hx
 ·exact h
 ·exact hl x hx
theorem Dg.append {l m:List Int} (h:Dg l) (hm:Dg m):Dg (l++m):=fun x hx=>(agL.1 hx).elim (h x) (hm x)
theorem Dg.take {l:List Int} (h:Dg l) (n:Nat):Dg (l.take n):=fun x hx=>h x (agf hx)
theorem Dg.drop {l:List Int} (h:Dg l) (n:Nat):Dg (l.drop n):=fun x hx=>h x (agd hx)
theorem Dg.rep (n:Nat):Dg (List.replicate n 0):=fun x hx=>by rw[(List.mem_replicate.1 hx).2];omega
theorem Dg.set {l:List Int} (h:Dg l) (i:Nat) {x:Int} (hx:0<=x∧x<1048576):Dg (l.set i x):=fun y hy=>by
 rcases List.mem_or_eq_of_mem_set hy with hy|rfl
 ·exact h y hy
 ·exact hx
theorem Dg.get {l:List Int} (h:Dg l) {i:Nat} (hi:i<l.length):0<=l[i]∧l[i]<1048576:=h _ (afH hi)
theorem cU:∀ {l:List Int},Dg l->0<=dv l
 | [],_=>Int.le_refl _
 | d::l,h=>by
  have h1:=h.cons
  have:=cU h1.2
  simp only[dv]
  omega
theorem oF:∀ {l:List Int},Dg l->dv l<pw l.length
 | [],_=>by simp[dv,rq]
 | d::l,h=>by
  have h1:=h.cons
  have:=oF h1.2
  simp only[dv,List.length_cons,lO]
  omega
theorem iK:∀l m:List Int,dv (l++m)=dv l+pw l.length*dv m
 | [],m=>by simp[dv,rq]
 | d::l,m=>by
  rw[ahn,dv,dv,iK l m,afV,lO,ahE,ahF]
  omega
theorem CA:∀n:Nat,dv (List.replicate n 0)=0
 | 0=>rfl
 | n+1=>by rw[agq,dv,CA n];rfl
theorem iL {l:List Int} {i:Nat} (h:i<l.length):dv (l.take (i+1))=dv (l.take i)+pw i*l[i]:=by
 have e:l.take (i+1)=l.take i++[l[i]]:=by rw[List.take_add_one];simp[h]
 rw[e,iK,afO,agI (by omega)]
 simp[dv]
theorem iu (l:List Int) {i:Nat} (h:i<=l.length):dv l=dv (l.take i)+pw i*dv (l.drop i):=by
 have:=iK (l.take i) (l.drop i)
 rw[ahk,afO,agI h]at this
 exact this
theorem sR {l:List Int} {i:Nat} (h:i<l.length) (x:Int):dv (l.set i x)=dv l+pw i*(x-l[i]):=by
 induction l generalizing i with
 | nil=>simp at h
 | cons d l ih =>
  cases i with
  | zero=>simp only[List.set_cons_zero,dv,rq,List.getElem_cons_zero];omega
  | succ i =>
   have:=ih (i:=i) (by simpa using h)
   simp only[List.set_cons_succ,dv,this,lO,List.getElem_cons_succ,ahE,ahF]
   omega
theorem Bt:∀ {l:List Int},Dg l->(∀h:l≠[],l.getLast h≠0)->bc (dv l).toNat=l
 | [],_,_=>by simp[dv,cT]
 | d::l,h,hl=>by
  have h1:=h.cons
  have h2:=cU h1.2
  have hne:(dv (d::l)).toNat≠0:=by
   simp only[dv]
   intro h0
   have hd:d=0:=by omega
   have hv:dv l=0:=by omega
   cases l with
   | nil=>exact hl (by simp) (by simpa using hd)
   | cons e m =>
    have ih:=Bt h1.2 (fun hh=>by have:=hl (by simp);simpa using this)
    rw[hv]at ih
    simp[cT]at ih
  rw[lW hne]
  have e1:(dv (d::l)).toNat % 1048576=d.toNat:=by simp only[dv];omega
  have e2:(dv (d::l)).toNat / 1048576=(dv l).toNat:=by simp only[dv];omega
  rw[e1,e2]
  have hd:(d.toNat:Int)=d:=by omega
  rw[hd]
  cases l with
  | nil=>simp[dv,cT]
  | cons e m=>rw[Bt h1.2 (fun hh=>by have:=hl (by simp);simpa using this)]
theorem UD:∀(n:Nat) (h:bc n≠[]),(bc n).getLast h≠0:=by
 intro n
 induction n using Nat.strongRecOn with
 | _ n ih =>
  intro h
  have hn:n≠0:=fun h0=>h (sM.2 h0)
  have e:=lW hn
  by_cases hq:n / 1048576=0
  ·have:bc n=[((n % 1048576:Nat):Int)]:=by rw[e,hq,cT]
   simp only[this,List.getLast_singleton]
   omega
  ·have hne:bc (n / 1048576)≠[]:=fun h0=>hq (sM.1 h0)
   have:=ih (n / 1048576) (by omega) hne
   simp only[e]
   rw[List.getLast_cons hne]
   exact this
theorem W0 {a b:Nat} (h:bc a=bc b):a=b:=by
 have:=congrArg dv h
 rw[bY,bY]at this
 omega
theorem kc {n k:Nat} (h:(n:Int)<pw k):(bc n).length<=k:=by
 induction k generalizing n with
 | zero =>
  rw[rq]at h
  have:n=0:=by omega
  rw[this,cT];simp
 | succ k ih =>
  by_cases h0:n=0
  ·rw[h0,cT];simp
  ·rw[lW h0,afV]
   rw[lO]at h
   have:=ih (n:=n / 1048576) (by omega)
   omega
theorem iC (n:Nat):(n:Int)<pw (bc n).length:=by
 have:=oF (dQ n)
 rwa [bY]at this
theorem xb {n:Nat} (h:n≠0):pw ((bc n).length-1)<=n∧0<(bc n).length:=by
 induction n using Nat.strongRecOn with
 | _ n ih =>
  rw[lW h,afV]
  refine⟨?_,by omega⟩
  by_cases hq:n / 1048576=0
  ·rw[hq,cT];simp[rq];omega
  ·obtain⟨h1,h2⟩:=ih (n / 1048576) (by omega) hq
   have:(bc (n / 1048576)).length+1-1=((bc (n / 1048576)).length-1)+1:=by omega
   rw[this,lO]
   omega
theorem sA {x:Int} (h1 : -9223372036854775808<=x) (h2:x<9223372036854775808):jh .and .i64 x 1048575=x % 1048576:=by
 unfold jh
 simp only
 have e1:(BitVec.ofInt IntKind.i64.bits x &&& BitVec.ofInt IntKind.i64.bits 1048575).toNat=((x % 18446744073709551616).toNat) % 1048576:=by
  rw[BitVec.toNat_and,BitVec.toNat_ofInt,BitVec.toNat_ofInt]
  have e:((1048575:Int) % ((2 ^ IntKind.i64.bits:Nat):Int)).toNat=2 ^ 20-1:=by decide
  rw[e,ahG]
  rfl
 rw[e1,wrap64 (by omega) (by omega)]
 omega
theorem Z4 {x:Int} (h1 : -9223372036854775808<=x) (h2:x<9223372036854775808):jh .and .i64 x 1=x % 2:=by
 unfold jh
 simp only
 have e1:(BitVec.ofInt IntKind.i64.bits x &&& BitVec.ofInt IntKind.i64.bits 1).toNat=((x % 18446744073709551616).toNat) % 2:=by
  rw[BitVec.toNat_and,BitVec.toNat_ofInt,BitVec.toNat_ofInt]
  have e:((1:Int) % ((2 ^ IntKind.i64.bits:Nat):Int)).toNat=2 ^ 1-1:=by decide
  rw[e,ahG]
  rfl
 rw[e1,wrap64 (by omega) (by omega)]
 omega
theorem OW (x:Int):Bk .i64 x 20=some (x / 1048576):=by
 unfold Bk
 rw[if_neg (by decide)]
 have e:(2:Int) ^ (min (Int.toNat 20) IntKind.i64.bits)=1048576:=by decide
 rw[e,Int.fdiv_eq_ediv_of_nonneg _ (by decide)]
theorem YF {x:Int} (h0:0<=x) (h:x<8796093022208):FI .i64 x 20=some (1048576*x):=by
 unfold FI
 rw[if_neg (by decide)]
 have e:(2:Int) ^ (min (Int.toNat 20) IntKind.i64.bits)=1048576:=by decide
 rw[e,wrap64 (by omega) (by omega),ahB]
theorem Q4 {x y:Int} (h0:0<=x) (h:x<8796093022208) (hy:0<=y∧y<1048576):jh .or .i64 (1048576*x) y=1048576*x+y:=by
 unfold jh
 simp only
 have e1:(BitVec.ofInt IntKind.i64.bits (1048576*x) ||| BitVec.ofInt IntKind.i64.bits y).toNat=1048576*x.toNat+y.toNat:=by
  rw[BitVec.toNat_or,BitVec.toNat_ofInt,BitVec.toNat_ofInt]
  have e:((2 ^ IntKind.i64.bits:Nat):Int)=18446744073709551616:=by decide
  rw[e]
  have e2:((1048576*x) % 18446744073709551616).toNat=x.toNat <<< 20:=by rw[Nat.shiftLeft_eq];omega
  have e3:(y % 18446744073709551616).toNat=y.toNat:=by omega
  rw[e2,e3,<- Nat.shiftLeft_add_eq_or_of_lt (by omega),Nat.shiftLeft_eq]
  omega
 rw[e1,wrap64 (by omega) (by omega)]
 omega
theorem mk0 {n:Nat} (h:n<=17592186044416):Fz 8 (n:Int) (n:Int) (0:Int)=some (List.replicate n 0):=by
 unfold Fz
 rw[if_pos]
 ·simp
 ·have:(17592186044416:Int)<=maxLen:=by decide
  refine⟨by omega,by omega,by omega,?_⟩
  simp only[Int.toNat_natCast]
  omega
theorem PG {l m:List Int} (h:l.length+m.length<=17592186044416):lk 8 l m=some (l++m):=by
 unfold lk
 have:(17592186044416:Nat)<=maxLen:=by decide
 rw[if_pos ⟨by omega,by omega⟩]
theorem fe {σ ρ:Type} {body:σ->Option (σ⊕ρ)} (I:Nat->σ->Prop) (n:Nat) (Q:ρ->Prop) {s:σ} (hI:I 0 s) (hn:n+1<FU)
  (hstep:∀i s,i<=n->I i s->(i<n∧∃s',body s=some (.inl s')∧I (i+1) s')∨(∃r,body s=some (.inr r)∧Q r)):∃r,bf body s=some r∧Q r:=by
 have key:∀(k i:Nat) (s:σ),i<=n->n-i<k->I i s->∃r,mC body k s=some r∧Q r:=by
  intro k
  induction k with
  | zero=>intro i s _ h;omega
  | succ k ih =>
   intro i s hi hk hI
   rcases hstep i s hi hI with⟨hlt,s',h1,h2⟩|⟨r,h1,h2⟩
   ·obtain⟨r,h3,h4⟩:=ih (i+1) s' (by omega) (by omega) h2
    exact⟨r,by simp only[mC,h1];exact h3,h4⟩
   ·exact⟨r,by simp only[mC,h1],h2⟩
 exact key FU 0 s (afw _) (by omega) hI
theorem aaE (i:Nat) (x:Int):pw (i+1)*x=pw i*(1048576*x):=by rw[lO,ahB 1048576 (pw i),ahF]
theorem zb (i:Nat) (t:Int):pw i*(t % 1048576)+pw (i+1)*(t / 1048576)=pw i*t:=by
 rw[aaE,<- ahE]
 congr 1
 omega
theorem oT {n:Nat} (h:n<=17592186044416):n+1<FU:=by unfold FU;omega
abbrev Fit (l:List Int):Prop:=l.length<=17592186044416
theorem jL {x:Int} (h : -4611686018427387904<=x∧x<=4611686018427387904):IntKind.i64.wrap x=x:=wrap64 (by omega) (by omega)
theorem tr {α:Type} (o:Option α):(o.bind fun r=>some r)=o:=by cases o<;>rfl
theorem VR {l:List Int} (hl:Fit l):∃r,bf (lU l) (l.length:Int)=some r∧∃k:Nat,r=k∧k<=l.length∧(∀j (hj:j<l.length),k<=j->l[j]=0)∧(∀h:0<k,∀hk:k-1<l.length,l[k-1]≠0):=by
 unfold Fit at hl
 refine fe (I:=fun i s=>s=((l.length-i:Nat):Int)∧(∀j (hj:j<l.length),l.length-i<=j->l[j]=0)) l.length _ ⟨rfl,fun j hj h=>by omega⟩ (oT hl) ?_
 rintro i s hi ⟨rfl,hz⟩
 generalize hk:l.length-i=k at *
 simp only[lU]
 by_cases h0:0<k
 ·have hk1:k-1<l.length:=by omega
  have e:IntKind.i64.wrap ((k:Int)-1)=((k-1:Nat):Int):=by rw[jL (by omega)];omega
  rw[if_pos (by simp;omega),e,cN hk1,ag5]
  by_cases hx:l[k-1]=0
  ·left
   refine⟨by omega,_,by rw[if_pos (by simpa using hx)],by rw[show l.length-(i+1)=k-1 by omega],fun j hj h =>?_⟩
   by_cases hj':j=k-1
   ·subst hj';exact hx
   ·exact hz j hj (by omega)
  ·right
   exact⟨_,by rw[if_neg (by simpa using hx)],k,rfl,by omega,hz,fun _ _=>hx⟩
 ·right
  exact⟨_,by rw[if_neg (by simp;omega)],k,rfl,by omega,hz,fun h=>absurd h h0⟩
theorem Xi {l:List Int} {k:Nat} (hz:∀j (hj:j<l.length),k<=j->l[j]=0):dv (l.drop k)=0:=by
 have:l.drop k=List.replicate (l.drop k).length 0:=by
  refine List.eq_replicate_of_mem fun x hx =>?_
  obtain⟨i,hi,rfl⟩:=List.mem_iff_getElem.1 hx
  rw[List.getElem_drop]
  exact hz _ _ (by omega)
 rw[this,CA]
theorem yw {l:List Int} (hl:Fit l) (hd:Dg l):dM l=some (bc (dv l).toNat):=by
 obtain⟨r,h1,k,rfl,hk,hz,hlast⟩:=VR hl
 unfold dM
 rw[h1,ag5,aaI hk,ag5]
 congr 1
 have h2:dv l=dv (l.take k):=by rw[iu l hk,Xi hz];omega
 rw[h2]
 refine (Bt (hd.take k) fun hne =>?_).symm
 have hk0:0<k:=by
  rcases afN k with h|h
  ·subst h;simp at hne
  ·exact h
 have:=hlast hk0 (by omega)
 rw[List.getLast_eq_getElem]
 simp only[afO,List.getElem_take,agI hk]
 exact this
theorem BC {l:List Int} {n:Nat} (hl:Fit l) (hd:Dg l) (hn:dv l=n):dM l=some (bc n):=by
 rw[yw hl hd,hn];rfl
def gd (l:List Int) (i:Nat):Int:=if h:i<l.length then l[i] else 0
theorem SV {l:List Int} (h:Dg l) (i:Nat):0<=gd l i∧gd l i<1048576:=by
 unfold gd
 split
 ·exact h.get _
 ·omega
theorem xB {l:List Int} (i:Nat):dv (l.take (i+1))=dv (l.take i)+pw i*gd l i:=by
 unfold gd
 split
 ·exact iL _
 ·rw[agW (by omega),agW (by omega)];simp
theorem C2 {l:List Int} {i:Nat} (h:l.length<=i):dv (l.take i)=dv l:=by rw[agW h]
theorem Wj {a b:List Int} (ha:Dg a) (hb:Dg b) (hf:a.length<17592186044416) (hab:b.length<=a.length) :
  ∃r,bf (nD a b) (0,0,List.replicate (a.length+1) 0)=some r∧r.2.length=a.length+1∧Dg r.2∧(∀j (hj:j<r.2.length),a.length<=j->r.2[j]=0)∧(0<=r.1∧r.1<=1)∧dv r.2+pw a.length*r.1=dv a+dv b:=by
 refine fe (I:=fun i s=>s.2.1=(i:Int)∧s.2.2.length=a.length+1∧Dg s.2.2∧(∀j (hj:j<s.2.2.length),i<=j->s.2.2[j]=0)∧(0<=s.1∧s.1<=1)∧dv s.2.2+pw i*s.1=dv (a.take i)+dv (b.take i))
  a.length _ ⟨rfl,by simp,Dg.rep _,fun j hj _=>by simp,by simp,by simp[CA,dv]⟩ (oT (by omega)) ?_
 rintro i ⟨c,s,l⟩ hi ⟨h1,hl,hd,hz,hc,he⟩
 simp only at h1 hl hd hz hc he
 subst h1
 simp only[nD]
 by_cases hlt:i<a.length
 ·left
  rw[if_pos (by simpa using hlt),cN hlt,ag5]
  have ga:=ha.get hlt
  have gb:=SV hb i
  have hT:(if decide ((i:Int)<(b.length:Int))=true then (P.idx b (i:Int)).bind fun x22=>some (IntKind.i64.wrap ((IntKind.i64.wrap (c+a[i]))+x22)) else some (IntKind.i64.wrap (c+a[i])))=some (c+a[i]+gd b i):=by
   by_cases hib:i<b.length
   ·rw[if_pos (by simpa using hib),cN hib,ag5]
    have:gd b i=b[i]:=by unfold gd;rw[dif_pos hib]
    rw[this]at gb ⊢
    rw[jL (x:=c+a[i]) (by omega),jL (by omega)]
   ·rw[if_neg (by simpa using hib)]
    have:gd b i=0:=by unfold gd;rw[dif_neg hib]
    rw[this,jL (by omega)];simp
  rw[hT,ag5,cN (by omega),ag5,OW,ag5,sA (by omega) (by omega)]
  have hli:l[i]=0:=hz i (by omega) (afv _)
  have e1:IntKind.i64.wrap ((i:Int)+1)=((i+1:Nat):Int):=by rw[jL (by omega)];omega
  refine⟨hlt,_,rfl,e1,by simpa using hl,hd.set _ (by omega),fun j hj hij =>?_,by simp only;omega,?_⟩
  ·simp only[Int.toNat_natCast]at hj ⊢
   rw[ahH (by omega)]
   exact hz j (by simpa using hj) (by omega)
  ·simp only[Int.toNat_natCast]
   rw[sR (by omega),hli,xB,xB]
   have hga:gd a i=a[i]:=by unfold gd;rw[dif_pos hlt]
   rw[hga]
   have hp:=zb i (c+a[i]+gd b i)
   rw[ahE,ahE]at hp
   rw[Int.sub_zero]
   omega
 ·right
  have hia:i=a.length:=by omega
  subst hia
  refine⟨_,by rw[if_neg (by simp)],hl,hd,fun j hj h=>hz j hj h,hc,?_⟩
  rw[he,C2 (afv _),C2 hab]
theorem add_eq {a b:List Int} (ha:Dg a) (hb:Dg b) (hfa:a.length<17592186044416) (hfb:b.length<17592186044416):oC a b=some (bc (dv a+dv b).toNat):=by
 have main:∀ {a b:List Int},Dg a->Dg b->a.length<17592186044416->b.length<=a.length ->
   ((Fz 8 (IntKind.i64.wrap ((a.length:Int)+1)) (IntKind.i64.wrap ((a.length:Int)+1)) 0).bind fun x2 =>
    (bf (nD a b) (0,0,x2)).bind fun q=>match q with
    | (s6bx,l5bx) =>
     (P.idx l5bx (a.length:Int)).bind fun x23 =>
     (dM (l5bx.set ((a.length:Int)).toNat s6bx)).bind fun r26 =>
     some r26)=some (bc (dv a+dv b).toNat):=by
  intro a b ha hb hfa hab
  have e:IntKind.i64.wrap ((a.length:Int)+1)=((a.length+1:Nat):Int):=by rw[jL (by omega)];omega
  rw[e,mk0 (by omega),ag5]
  obtain⟨⟨c,l⟩,h1,h2,h3,h4,h5,h6⟩:=Wj ha hb hfa hab
  rw[h1]
  simp only[Option.bind_some]at h2 h3 h4 h5 h6 ⊢
  have hlt:a.length<l.length:=by omega
  rw[cN hlt,ag5,agv,tr]
  have hv:dv (l.set a.length c)=dv a+dv b:=by
   rw[sR hlt,h4 _ hlt (afv _),Int.sub_zero,h6]
  rw[yw (by simp[Fit];omega) (h3.set _ (by omega)),hv]
 unfold oC
 by_cases h:a.length<b.length
 ·rw[if_pos (by simpa using h),ag5,Int.add_comm]
  exact main hb ha hfb (by omega)
 ·rw[if_neg (by simpa using h),ag5]
  exact main ha hb hfa (by omega)
theorem sJ {l:List Int} (h:Fit l):bG l=some l:=by
 unfold bG
 rw[PG (by simpa using h),ahe]
theorem XD {l:List Int} {i:Nat} (h:i<l.length):gd l i=l[i]:=by unfold gd;rw[dif_pos h]
theorem XC {l:List Int} {i:Nat} (h:l.length<=i):gd l i=0:=by unfold gd;rw[dif_neg (by omega)]
theorem YW {a b:List Int} (ha:Dg a) (hb:Dg b) (hf:Fit a) (hab:b.length<=a.length) (hle:dv b<=dv a) :
  ∃l,bf (qH b a) (0,0,a)=some l∧l.length=a.length∧Dg l∧dv l=dv a-dv b:=by
 unfold Fit at hf
 refine fe (I:=fun i s=>s.2.1=(i:Int)∧s.2.2.length=a.length∧Dg s.2.2∧(∀j (hj:j<s.2.2.length) (hj':j<a.length),i<=j->s.2.2[j]=a[j])∧(0<=s.1∧s.1<=1)∧dv s.2.2+dv (b.take i)=dv a+pw i*s.1)
  a.length _ ⟨rfl,rfl,ha,fun j hj _ _=>rfl,by simp,by simp[dv]⟩ (oT (by omega)) ?_
 rintro i ⟨c,s,l⟩ hi ⟨h1,hl,hd,hz,hc,he⟩
 simp only at h1 hl hd hz hc he
 subst h1
 simp only[qH]
 by_cases hlt:i<a.length
 ·left
  have hli:i<l.length:=by omega
  rw[if_pos (by simpa using hlt),cN hli,ag5,hz i hli hlt (afv _)]
  have ga:=ha.get hlt
  have gb:=SV hb i
  have hT:(if decide ((i:Int)<(b.length:Int))=true then (P.idx b (i:Int)).bind fun x18=>some (IntKind.i64.wrap ((IntKind.i64.wrap (a[i]-c))-x18)) else some (IntKind.i64.wrap (a[i]-c)))=some (a[i]-c-gd b i):=by
   by_cases hib:i<b.length
   ·rw[if_pos (by simpa using hib),cN hib,ag5]
    rw[XD hib]at gb ⊢
    rw[jL (x:=a[i]-c) (by omega),jL (by omega)]
   ·rw[if_neg (by simpa using hib),XC (by omega),jL (by omega)];simp
  rw[hT,ag5,OW,ag5,sA (by omega) (by omega),Z4 (by omega) (by omega)]
  have e1:IntKind.i64.wrap ((i:Int)+1)=((i+1:Nat):Int):=by rw[jL (by omega)];omega
  refine⟨hlt,_,rfl,e1,by simpa using hl,hd.set _ (by omega),fun j hj hj' hij =>?_,by simp only;omega,?_⟩
  ·simp only[Int.toNat_natCast]at hj ⊢
   rw[ahH (by omega)]
   exact hz j (by simpa using hj) hj' (by omega)
  ·simp only[Int.toNat_natCast]
   rw[sR hli,hz i hli hlt (afv _),xB]
   have hp:=zb i (a[i]-c-gd b i)
   have hb2:(a[i]-c-gd b i) / 1048576 % 2 = - ((a[i]-c-gd b i) / 1048576):=by omega
   rw[hb2,Int.mul_neg]
   rw[ahI,ahI]at hp
   rw[ahI]
   omega
 ·right
  have hia:i=a.length:=by omega
  subst hia
  refine⟨l,by rw[if_neg (by simp)],hl,hd,?_⟩
  rw[C2 hab]at he
  have h1:=oF hd
  rw[hl]at h1
  have hc0:c=0:=by
   rcases (show c=0∨c=1 by omega) with h|h
   ·exact h
   ·subst h;omega
  subst hc0
  omega
theorem sub_eq {a b:List Int} (ha:Dg a) (hb:Dg b) (hf:Fit a) (hab:b.length<=a.length) (hle:dv b<=dv a):mK a b=some (bc (dv a-dv b).toNat):=by
 obtain⟨l,h1,h2,h3,h4⟩:=YW ha hb hf hab hle
 unfold mK
 rw[sJ hf,ag5,h1,ag5,tr,yw (by unfold Fit at *;omega) h3,h4]
theorem lF {l:List Int} {i:Nat} (h:i<l.length):dv (l.drop i)=l[i]+1048576*dv (l.drop (i+1)):=by
 rw[ahq h,dv]
theorem ada {x d:Int} (h:0<=x) (hd:0<d) (hx:x<4611686018427387904):Cm .i64 x d=some (x / d):=by
 unfold Cm
 rw[if_neg (by omega),Int.tdiv_eq_ediv_of_nonneg h,jL]
 have:=ahJ h (Int.le_of_lt hd)
 have:=Int.ediv_le_self d h
 omega
theorem adq {x d:Int} (h:0<=x) (hd:0<d):JX .i64 x d=some (x % d):=by
 unfold JX
 rw[if_neg (by omega),Int.tmod_eq_emod_of_nonneg h]
theorem Rc {a:List Int} {d:Int} (ha:Dg a) (hd:0<d∧d<=1048576) (hf:Fit a) :
  ∃r,bf (mJ a d) (0,IntKind.i64.wrap ((a.length:Int)-1),List.replicate a.length 0)=some r∧r.2.length=a.length∧Dg r.2∧(0<=r.1∧r.1<d)∧dv a=d*dv r.2+r.1:=by
 unfold Fit at hf
 have e0:IntKind.i64.wrap ((a.length:Int)-1)=(a.length:Int)-1:=jL (by omega)
 rw[e0]
 refine fe (I:=fun i s=>s.2.1=((a.length-i:Nat):Int)-1∧s.2.2.length=a.length∧Dg s.2.2∧(0<=s.1∧s.1<d)∧dv (a.drop (a.length-i))=d*dv (s.2.2.drop (a.length-i))+s.1)
  a.length _ ⟨rfl,by simp,Dg.rep _,by simp;omega,by simp[dv]⟩ (oT (by omega)) ?_
 rintro i ⟨r,s,l⟩ hi ⟨h1,hl,hg,hr,he⟩
 simp only at h1 hl hg hr he
 subst h1
 generalize hk:a.length-i=k at *
 simp only[mJ]
 by_cases h0:0<k
 ·left
  have hk1:k-1<a.length:=by omega
  have hk2:k-1<l.length:=by omega
  have ek:((k:Int)-1)=((k-1:Nat):Int):=by omega
  have ga:=ha.get hk1
  rw[ek,if_pos (by simp),YF (by omega) (by omega),ag5,cN hk1,ag5,Q4 (by omega) (by omega) ga,ada (by omega) hd.1 (by omega),ag5,cN hk2,ag5,adq (by omega) hd.1,ag5]
  have e1:IntKind.i64.wrap (((k-1:Nat):Int)-1)=((k-1:Nat):Int)-1:=jL (by omega)
  have hx0:0<=1048576*r+a[k-1]:=by omega
  have hq0:0<=(1048576*r+a[k-1]) / d:=ahJ hx0 (by omega)
  have hq1:(1048576*r+a[k-1]) / d<1048576:=by
   apply ahK hd.1
   have:1048576*r<=1048576*(d-1):=ahD (by omega) (by omega)
   omega
  have hm0:=Int.emod_nonneg (1048576*r+a[k-1]) (show d≠0 by omega)
  have hm1:=ahL (1048576*r+a[k-1]) hd.1
  refine⟨by omega,_,rfl,by rw[e1,show a.length-(i+1)=k-1 by omega],by simpa using hl,hg.set _ ⟨hq0,hq1⟩,⟨hm0,hm1⟩,?_⟩
  simp only[Int.toNat_natCast]
  rw[show a.length-(i+1)=k-1 by omega,lF hk1,lF (l:=l.set (k-1) _) (i:=k-1) (by simpa using hk2),show k-1+1=k by omega,List.getElem_set_self,List.drop_set_of_lt (by omega),he]
  have:=ahM (1048576*r+a[k-1]) d
  rw[ahE,ahE]
  have e3:d*(1048576*dv (l.drop k))=1048576*(d*dv (l.drop k)):=by rw[<- ahF,ahB d,ahF]
  rw[e3]
  omega
 ·right
  have:k=0:=by omega
  subst this
  refine⟨(r,l),by rw[if_neg (by simp)],hl,hg,hr,?_⟩
  simpa using he
theorem OV {a:List Int} {d:Int} (ha:Dg a) (hd:0<d∧d<=1048576) (hf:Fit a):kb a d=some (bc (dv a / d).toNat,dv a % d):=by
 obtain⟨⟨r,l⟩,h1,h2,h3,h4,h5⟩:=Rc ha hd hf
 unfold kb
 rw[mk0 hf,ag5,h1,ag5]
 simp only at h2 h3 h4 h5 ⊢
 rw[yw (by unfold Fit at *;omega) h3,ag5]
 have e1:dv a / d=dv l:=by
  rw[h5,ahB,Int.add_comm,Int.add_mul_ediv_right _ _ (by omega),Int.ediv_eq_zero_of_lt h4.1 h4.2];omega
 have e2:dv a % d=r:=by
  rw[h5,ahB,Int.add_comm,Int.add_mul_emod_self_right]
  exact Int.emod_eq_of_lt h4.1 h4.2
 rw[e1,e2]
theorem VA {b l0:List Int} {x:Int} {i n:Nat} (hb:Dg b) (hx:0<=x∧x<1048576) (h0:Dg l0) (hn:l0.length=n) (hi:i+b.length<n) (hf:n<=17592186044416) (hz:∀j (hj:j<l0.length),i+b.length<=j->l0[j]=0) :
  ∃r,bf (qG b (i:Int) x) (0,0,l0)=some r∧r.2.length=n∧Dg r.2∧(0<=r.1∧r.1<1048576)∧(∀j (hj:j<r.2.length),i+b.length<=j->r.2[j]=0)∧dv r.2+pw (i+b.length)*r.1=dv l0+pw i*(x*dv b):=by
 refine fe (I:=fun k s=>s.2.1=(k:Int)∧s.2.2.length=n∧Dg s.2.2∧(0<=s.1∧s.1<1048576)∧(∀j (hj:j<s.2.2.length),i+b.length<=j->s.2.2[j]=0)∧dv s.2.2+pw (i+k)*s.1=dv l0+pw i*(x*dv (b.take k)))
  b.length _ ⟨rfl,hn,h0,by simp,hz,by simp[dv]⟩ (oT (by omega)) ?_
 rintro k ⟨c,s,l⟩ hk ⟨h1,hl,hd,hc,hz,he⟩
 simp only at h1 hl hd hc hz he
 subst h1
 simp only[qG]
 by_cases hlt:k<b.length
 ·left
  have hik:i+k<l.length:=by omega
  have ei:IntKind.i64.wrap ((i:Int)+(k:Int))=((i+k:Nat):Int):=by rw[jL (by omega)];omega
  have gb:=hb.get hlt
  have gl:=hd.get hik
  have hm0:0<=x*b[k]:=ahN hx.1 gb.1
  have hm1:x*b[k]<=1048575*1048575:=Int.mul_le_mul (by omega) (by omega) gb.1 (by omega)
  rw[if_pos (by simpa using hlt),cN hlt,ag5,ei,cN hik,ag5,jL (x:=x*b[k]) (by omega),jL (x:=l[i+k]+x*b[k]) (by omega),jL (x:=l[i+k]+x*b[k]+c) (by omega),OW,ag5,sA (by omega) (by omega)]
  have e1:IntKind.i64.wrap ((k:Int)+1)=((k+1:Nat):Int):=by rw[jL (by omega)];omega
  refine⟨hlt,_,rfl,e1,by simpa using hl,hd.set _ (by omega),by simp only;omega,fun j hj hij =>?_,?_⟩
  ·simp only[Int.toNat_natCast]at hj ⊢
   rw[ahH (by omega)]
   exact hz j (by simpa using hj) hij
  ·simp only[Int.toNat_natCast]
   rw[sR hik,iL hlt]
   have hp:=zb (i+k) (l[i+k]+x*b[k]+c)
   rw[ahE (pw (i+k)),ahE (pw (i+k))]at hp
   have e2:pw i*(x*(dv (b.take k)+pw k*b[k]))=pw i*(x*dv (b.take k))+pw (i+k)*(x*b[k]):=by
    rw[ahE,ahE,Ke]
    congr 1
    rw[ahO x,<- ahF]
   rw[e2,ahI,show i+(k+1)=i+k+1 by omega]
   omega
 ·right
  have hkb:k=b.length:=by omega
  subst hkb
  refine⟨(c,l),by rw[if_neg (by simp)],hl,hd,hc,hz,?_⟩
  rw[he,ahw]
theorem Vz {a b:List Int} (ha:Dg a) (hb:Dg b) (hf:a.length+b.length<=17592186044416) :
  ∃l,bf (qF a b) (0,List.replicate (a.length+b.length) 0)=some l∧l.length=a.length+b.length∧Dg l∧dv l=dv a*dv b:=by
 refine fe (I:=fun i s=>s.1=(i:Int)∧s.2.length=a.length+b.length∧Dg s.2∧(∀j (hj:j<s.2.length),i+b.length<=j->s.2[j]=0)∧dv s.2=dv (a.take i)*dv b)
  a.length _ ⟨rfl,by simp,Dg.rep _,fun j hj _=>by simp,by simp[dv,CA]⟩ (oT (by omega)) ?_
 rintro i ⟨s,l⟩ hi ⟨h1,hl,hd,hz,he⟩
 simp only at h1 hl hd hz he
 subst h1
 simp only[qF]
 by_cases hlt:i<a.length
 ·left
  have ga:=ha.get hlt
  obtain⟨⟨c,m⟩,g1,g2,g3,g4,g5,g6⟩:=VA (i:=i) (n:=a.length+b.length) hb ga hd hl (by omega) hf hz
  rw[if_pos (by simpa using hlt),cN hlt,ag5,g1,ag5]
  simp only at g2 g3 g4 g5 g6 ⊢
  have ei:IntKind.i64.wrap ((i:Int)+(b.length:Int))=((i+b.length:Nat):Int):=by rw[jL (by omega)];omega
  have hib:i+b.length<m.length:=by omega
  rw[ei,cN hib,ag5,g5 _ hib (afv _),Int.zero_add,jL (x:=c) (by omega)]
  have e1:IntKind.i64.wrap ((i:Int)+1)=((i+1:Nat):Int):=by rw[jL (by omega)];omega
  refine⟨hlt,_,rfl,e1,by simpa using g2,g3.set _ g4,fun j hj hij =>?_,?_⟩
  ·simp only[Int.toNat_natCast]at hj ⊢
   rw[ahH (by omega)]
   exact g5 j (by simpa using hj) (by omega)
  ·simp only[Int.toNat_natCast]
   rw[sR hib,g5 _ hib (afv _),Int.sub_zero,g6,he,iL hlt,ahP,ahF]
 ·right
  have hia:i=a.length:=by omega
  subst hia
  refine⟨l,by rw[if_neg (by simp)],hl,hd,?_⟩
  rw[he,ahw]
theorem mul_eq {a b:List Int} (ha:Dg a) (hb:Dg b) (hf:a.length+b.length<=17592186044416):mI a b=some (bc (dv a*dv b).toNat):=by
 obtain⟨l,h1,h2,h3,h4⟩:=Vz ha hb hf
 unfold mI
 have e:IntKind.i64.wrap ((a.length:Int)+(b.length:Int))=((a.length+b.length:Nat):Int):=by rw[jL (by omega)];omega
 rw[e,mk0 hf,ag5,h1,ag5,tr,yw (by unfold Fit;omega) h3,h4]
def sg (x y:Int):Int:=if x<y then -1 else if y<x then 1 else 0
theorem Jh (x y:Int):eN x y=some (sg x y):=by
 unfold eN ll sg
 simp only[bne_self_eq_false,Option.bind_some,af5,if_false,decide_eq_true_eq]
 split
 ·rfl
 ·split<;>rfl
theorem Ly {a b:List Int} (ha:Dg a) (hb:Dg b) (hf:Fit a) (hl:a.length=b.length):eM a b=some (sg (dv a) (dv b)):=by
 unfold Fit at hf
 unfold eM
 rw[if_neg (by simp;omega)]
 have e0:IntKind.i64.wrap ((a.length:Int)-1)=(a.length:Int)-1:=jL (by omega)
 rw[e0]
 have key:∃r,bf (kB a b) ((a.length:Int)-1)=some r∧(match r with | .inl _=>sg (dv a) (dv b)=0 | .inr x=>x=sg (dv a) (dv b)):=by
  refine fe (I:=fun i s=>s=((a.length-i:Nat):Int)-1∧a.drop (a.length-i)=b.drop (a.length-i)) a.length _ ⟨rfl,?_⟩ (oT hf) ?_
  ·rw[ahh (by omega),ahh (by omega)]
  rintro i s hi ⟨rfl,he⟩
  generalize hk:a.length-i=k at *
  simp only[kB]
  by_cases h0:0<k
  ·have h1:k-1<a.length:=by omega
   have h2:k-1<b.length:=by omega
   have ek:((k:Int)-1)=((k-1:Nat):Int):=by omega
   rw[ek,if_pos (by simp),cN h1,ag5,cN h2,ag5]
   by_cases hx:a[k-1]=b[k-1]
   ·left
    rw[if_neg (by simpa using hx)]
    refine⟨by omega,_,rfl,by rw[jL (by omega)];omega,?_⟩
    rw[show a.length-(i+1)=k-1 by omega,ahq h1,ahq h2,hx,show k-1+1=k by omega,he]
   ·right
    rw[if_pos (by simpa using hx),Jh,ag5]
    refine⟨_,rfl,?_⟩
    simp only
    have ea:=iu a (i:=k) (by omega)
    have eb:=iu b (i:=k) (by omega)
    have ta:=iL h1
    have tb:=iL h2
    rw[show k-1+1=k by omega]at ta tb
    have la:=oF (ha.take (k-1))
    have lb:=oF (hb.take (k-1))
    rw[afO,agI (by omega)]at la lb
    have na:=cU (ha.take (k-1))
    have nb:=cU (hb.take (k-1))
    have hp:=oa (k-1)
    rw[ta]at ea
    rw[tb]at eb
    rw[he]at ea
    unfold sg
    rcases Int.lt_or_gt_of_ne hx with hlt|hlt
    ·have:pw (k-1)*a[k-1]+pw (k-1)<=pw (k-1)*b[k-1]:=by
      have:pw (k-1)*(a[k-1]+1)<=pw (k-1)*b[k-1]:=ahD (by omega) (by omega)
      rwa [ahE,ahC]at this
     rw[if_pos hlt,if_pos (by omega)]
    ·have:pw (k-1)*b[k-1]+pw (k-1)<=pw (k-1)*a[k-1]:=by
      have:pw (k-1)*(b[k-1]+1)<=pw (k-1)*a[k-1]:=ahD (by omega) (by omega)
      rwa [ahE,ahC]at this
     rw[if_neg (by omega),if_pos hlt,if_neg (by omega),if_pos (by omega)]
  ·right
   have:k=0:=by omega
   subst this
   refine⟨.inl (),by rw[if_neg (by simp)],?_⟩
   simp only[agX]at he
   simp[he,sg]
 obtain⟨r,h1,h2⟩:=key
 rw[h1,ag5]
 cases r with
 | inl u=>simp only at h2 ⊢;rw[h2]
 | inr x=>simp only at h2 ⊢;rw[h2]
theorem sL {m n:Nat} (h:(bc m).length<(bc n).length):m<n:=by
 have h1:=iC m
 have hn:n≠0:=fun h0=>by subst h0;rw[cT]at h;simp at h
 have h2:=xb hn
 have h3:=rp (i:=(bc m).length) (j:=(bc n).length-1) (by omega)
 omega
theorem eH {m n:Nat} (h:m<=n):(bc m).length<=(bc n).length:=by
 rcases agh (bc n).length (bc m).length with h1|h1
 ·have:=sL h1;omega
 ·exact h1
theorem Cj {m n:Nat} (hm:Fit (bc m)) (hn:Fit (bc n)):eM (bc m) (bc n)=some (sg m n):=by
 by_cases hl:(bc m).length=(bc n).length
 ·rw[Ly (dQ m) (dQ n) hm hl,bY,bY]
 ·unfold eM
  rw[if_pos (by simp;omega),Jh,tr]
  unfold sg
  rcases Nat.lt_or_gt_of_ne hl with h|h
  ·have:=sL h
   rw[if_pos (by omega),if_pos (by omega)]
  ·have:=sL h
   rw[if_neg (by omega),if_pos (by omega),if_neg (by omega),if_pos (by omega)]
theorem Ki {u v:List Int} {g:Int} (hu:Dg u) (hv:Dg v) (hg:0<=g∧g<=1048576) (hf:Fit u) (hl:v.length<=u.length) :
  ∃r,bf (jC u v g) (0,0,u)=some r∧r.2.length=u.length∧Dg r.2∧(0<=r.1∧r.1<=1048576)∧dv r.2+g*dv v=dv u+pw u.length*r.1:=by
 unfold Fit at hf
 refine fe (I:=fun i s=>s.2.1=(i:Int)∧s.2.2.length=u.length∧Dg s.2.2∧(∀j (hj:j<s.2.2.length) (hj':j<u.length),i<=j->s.2.2[j]=u[j])∧(0<=s.1∧s.1<=1048576)∧dv s.2.2+g*dv (v.take i)=dv u+pw i*s.1)
  u.length _ ⟨rfl,rfl,hu,fun j hj _ _=>rfl,by simp,by simp[dv]⟩ (oT (by omega)) ?_
 rintro i ⟨c,s,l⟩ hi ⟨h1,hll,hd,hz,hc,he⟩
 simp only at h1 hll hd hz hc he
 subst h1
 simp only[jC]
 by_cases hlt:i<u.length
 ·left
  have hli:i<l.length:=by omega
  rw[if_pos (by simpa using hlt),cN hli,ag5,hz i hli hlt (afv _)]
  have ga:=hu.get hlt
  have gb:=SV hv i
  have hm0:0<=g*gd v i:=ahN hg.1 gb.1
  have hm1:g*gd v i<=1048576*1048575:=Int.mul_le_mul (by omega) (by omega) gb.1 (by omega)
  have hT:(if decide ((i:Int)<(v.length:Int))=true then (P.idx v (i:Int)).bind fun x17=>some (IntKind.i64.wrap ((IntKind.i64.wrap (u[i]-c))-(IntKind.i64.wrap (g*x17)))) else some (IntKind.i64.wrap (u[i]-c)))=some (u[i]-c-g*gd v i):=by
   by_cases hib:i<v.length
   ·rw[if_pos (by simpa using hib),cN hib,ag5]
    rw[XD hib]at gb hm0 hm1 ⊢
    rw[jL (x:=u[i]-c) (by omega),jL (x:=g*v[i]) (by omega),jL (by omega)]
   ·rw[if_neg (by simpa using hib),XC (by omega),jL (by omega)];simp
  rw[hT,ag5,OW,ag5,sA (by omega) (by omega),jL (x:=0-_) (by omega)]
  have e1:IntKind.i64.wrap ((i:Int)+1)=((i+1:Nat):Int):=by rw[jL (by omega)];omega
  refine⟨hlt,_,rfl,e1,by simpa using hll,hd.set _ (by omega),fun j hj hj' hij =>?_,by simp only;omega,?_⟩
  ·simp only[Int.toNat_natCast]at hj ⊢
   rw[ahH (by omega)]
   exact hz j (by simpa using hj) hj' (by omega)
  ·simp only[Int.toNat_natCast]
   rw[sR hli,hz i hli hlt (afv _),xB]
   have hp:=zb i (u[i]-c-g*gd v i)
   rw[ahI (pw i),ahI (pw i)]at hp
   have e2:g*(dv (v.take i)+pw i*gd v i)=g*dv (v.take i)+pw i*(g*gd v i):=by rw[ahE,ahO]
   rw[e2,ahI (pw i),ahI (pw (i+1)),ahQ]
   omega
 ·right
  have hia:i=u.length:=by omega
  subst hia
  refine⟨(c,l),by rw[if_neg (by simp)],hll,hd,hc,?_⟩
  rw[C2 hl]at he
  exact he
theorem Kj {u v:List Int} (hu:Dg u) (hv:Dg v) (hf:Fit u) (hl:v.length<=u.length) :
  ∃l,bf (jD v u) (0,0,u)=some l∧l.length=u.length∧Dg l∧∃c,0<=c∧dv l+pw u.length*c=dv u+dv v:=by
 unfold Fit at hf
 refine fe (I:=fun i s=>s.2.1=(i:Int)∧s.2.2.length=u.length∧Dg s.2.2∧(∀j (hj:j<s.2.2.length) (hj':j<u.length),i<=j->s.2.2[j]=u[j])∧(0<=s.1∧s.1<=1)∧dv s.2.2+pw i*s.1=dv u+dv (v.take i))
  u.length _ ⟨rfl,rfl,hu,fun j hj _ _=>rfl,by simp,by simp[dv]⟩ (oT (by omega)) ?_
 rintro i ⟨c,s,l⟩ hi ⟨h1,hll,hd,hz,hc,he⟩
 simp only at h1 hll hd hz hc he
 subst h1
 simp only[jD]
 by_cases hlt:i<u.length
 ·left
  have hli:i<l.length:=by omega
  rw[if_pos (by simpa using hlt),cN hli,ag5,hz i hli hlt (afv _)]
  have ga:=hu.get hlt
  have gb:=SV hv i
  have hT:(if decide ((i:Int)<(v.length:Int))=true then (P.idx v (i:Int)).bind fun x35=>some (IntKind.i64.wrap ((IntKind.i64.wrap (c+u[i]))+x35)) else some (IntKind.i64.wrap (c+u[i])))=some (c+u[i]+gd v i):=by
   by_cases hib:i<v.length
   ·rw[if_pos (by simpa using hib),cN hib,ag5]
    rw[XD hib]at gb ⊢
    rw[jL (x:=c+u[i]) (by omega),jL (by omega)]
   ·rw[if_neg (by simpa using hib),XC (by omega),jL (by omega)];simp
  rw[hT,ag5,OW,ag5,sA (by omega) (by omega)]
  have e1:IntKind.i64.wrap ((i:Int)+1)=((i+1:Nat):Int):=by rw[jL (by omega)];omega
  refine⟨hlt,_,rfl,e1,by simpa using hll,hd.set _ (by omega),fun j hj hj' hij =>?_,by simp only;omega,?_⟩
  ·simp only[Int.toNat_natCast]at hj ⊢
   rw[ahH (by omega)]
   exact hz j (by simpa using hj) hj' (by omega)
  ·simp only[Int.toNat_natCast]
   rw[sR hli,hz i hli hlt (afv _),xB]
   have hp:=zb i (c+u[i]+gd v i)
   rw[ahE (pw i),ahE (pw i)]at hp
   rw[ahI (pw i)]
   omega
 ·right
  have hia:i=u.length:=by omega
  subst hia
  refine⟨l,by rw[if_neg (by simp)],hll,hd,c,hc.1,?_⟩
  rw[C2 hl]at he
  exact he
theorem VJ {u v:List Int} {g:Int} (hu:Dg u) (hv:Dg v) (hf:Fit u) (hl:v.length<=u.length) (hV:0<dv v) (hg0:dv u / dv v<=g) (hg1:g<=dv u / dv v+1) (hgB:g<=1048576) :
  ∃l,fk u v g=some (l,dv u / dv v)∧l.length=u.length∧Dg l∧dv l=dv u % dv v:=by
 have hq0:0<=dv u / dv v:=ahJ (cU hu) (by omega)
 obtain⟨⟨c,l⟩,h1,h2,h3,h4,h5⟩:=Ki hu hv ⟨by omega,hgB⟩ hf hl
 simp only at h2 h3 h4 h5
 have hm:=ahM (dv u) (dv v)
 have hm0:=Int.emod_nonneg (dv u) (show dv v≠0 by omega)
 have hm1:=ahL (dv u) hV
 have hll:=oF h3
 have hl0:=cU h3
 rw[h2]at hll
 have hp:=oa u.length
 have hvl:dv v<pw u.length:=Int.lt_of_lt_of_le (oF hv) (rp hl)
 unfold fk nE
 rw[h1,ag5]
 simp only
 rcases (show g=dv u / dv v∨g=dv u / dv v+1 by omega) with hg|hg
 ·have hgv:g*dv v=dv v*(dv u / dv v):=by rw[hg,ahB]
  have hc0:c=0:=by
   rcases (show c=0∨1<=c by omega) with h|h
   ·exact h
   ·have:pw u.length*1<=pw u.length*c:=ahD h (by omega)
    omega
  subst hc0
  rw[if_pos (by simp),ag5,if_pos (by simpa using h2)]
  exact⟨l,by rw[hg],h2,h3,by rw[ahQ]at h5;omega⟩
 ·have hgv:g*dv v=dv v*(dv u / dv v)+dv v:=by rw[hg,ahP,ahR,ahB]
  have hc0:c≠0:=by
   intro h
   subst h
   rw[ahQ]at h5
   omega
  obtain⟨m,g1,g2,g3,d,g4,g5⟩:=Kj h3 hv (by unfold Fit at *;omega) (by omega)
  rw[if_neg (by simpa using hc0),g1,ag5,ag5,if_pos (by simp;omega)]
  refine⟨m,by rw[jL (by omega),hg];simp,by omega,g3,?_⟩
  rw[h2]at g5
  have hml:=oF g3
  have hm0':=cU g3
  rw[g2,h2]at hml
  have hcd:c=d:=by
   rcases ahy c d with h|h|h
   ·have:pw u.length*(c+1)<=pw u.length*d:=ahD (by omega) (by omega)
    rw[ahE,ahC]at this
    omega
   ·exact h
   ·have:pw u.length*(d+1)<=pw u.length*c:=ahD (by omega) (by omega)
    rw[ahE,ahC]at this
    omega
  subst hcd
  omega
theorem Qt {v u:List Int} {s13:Int} {v1 v2 w2 T V W:Int} {n:Nat} (hn:2<=n) (hlen:v.length=n) (hfv:n<=17592186044416) (i:Nat) (hs:s13=i) (hfi:i+n<=17592186044416)
  (hv2:P.idx v (((n-2:Nat)):Int)=some v2) (hw2:P.idx u (((i+n-2:Nat)):Int)=some w2)
  (b1:524288<=v1∧v1<1048576) (b2:0<=v2∧v2<1048576) (bw:0<=w2∧w2<1048576) (hT0:0<=T) (hT1:T<1048576*1048576)
  (hV:pw (n-2)*(v1*1048576+v2)<=V∧V<pw (n-2)*(v1*1048576+v2+1)) (hW:pw (n-2)*(T*1048576+w2)<=W∧W<pw (n-2)*(T*1048576+w2+1)) (hWV:W<1048576*V) :
  ∃g,bf (qE v s13 u v1) (T / v1,T % v1)=some g∧W / V<=g∧g<=W / V+1∧g<=1048576:=by
 subst hs
 have hp:=oa (n-2)
 have hVp:0<V:=by
  have:pw (n-2)*1<=pw (n-2)*(v1*1048576+v2):=ahD (by omega) (by omega)
  omega
 have hW0:0<=W:=by
  have:0<=pw (n-2)*(T*1048576+w2):=ahN (by omega) (by omega)
  omega
 have hq0:0<=W / V:=ahJ hW0 (by omega)
 have hqB:W / V<1048576:=ahK hVp hWV
 have hm:=ahM T v1
 have hm0:=Int.emod_nonneg T (show v1≠0 by omega)
 have hm1:=ahL T (show 0<v1 by omega)
 have hd0:0<=T / v1:=ahJ hT0 (by omega)
 have hd1:T / v1<=2097152:=by
  have:T / v1<2097153:=ahK (by omega) (by
   have:2097153*524288<=2097153*v1:=ahD b1.1 (by omega)
   omega)
  omega
 have hge:∀g r:Int,g*v1+r=T->W / V<=g->g*v2>r*1048576+w2->W / V<=g-1:=by
  intro g r h1 h2 h3
  have h4:W<g*V:=by
   have e1:g*(v1*1048576+v2)>=T*1048576+w2+1:=by
    rw[<- h1]
    have:g*(v1*1048576+v2)=g*v1*1048576+g*v2:=by rw[ahE,ahF]
    rw[this,ahP]
    omega
   have e2:pw (n-2)*(T*1048576+w2+1)<=pw (n-2)*(g*(v1*1048576+v2)):=ahD e1 (by omega)
   have e3:g*(pw (n-2)*(v1*1048576+v2))<=g*V:=ahD hV.1 (by omega)
   have e4:pw (n-2)*(g*(v1*1048576+v2))=g*(pw (n-2)*(v1*1048576+v2)):=ahO _ _ _
   omega
  have:=ahK hVp h4
  omega
 have hle:∀g r:Int,g*v1+r=T->0<=g->g<=1048576->g*v2<=r*1048576+w2->g<=W / V+1:=by
  intro g r h1 h0 hB h3
  have e1:g*(v1*1048576+v2)<=T*1048576+w2:=by
   rw[<- h1]
   have:g*(v1*1048576+v2)=g*v1*1048576+g*v2:=by rw[ahE,ahF]
   rw[this,ahP]
   omega
  have e2:g*V<=W+V:=by
   have f1:g*V<=g*(pw (n-2)*(v1*1048576+v2+1)):=ahD (by omega) h0
   have f2:g*(pw (n-2)*(v1*1048576+v2+1))=pw (n-2)*(g*(v1*1048576+v2))+pw (n-2)*g:=by
    rw[ahO,ahE g,ahC,ahE]
   have f3:pw (n-2)*(g*(v1*1048576+v2))<=pw (n-2)*(T*1048576+w2):=ahD e1 (by omega)
   have f4:pw (n-2)*g<=pw (n-2)*(v1*1048576+v2):=ahD (by omega) (by omega)
   omega
  have e3:(g-1)*V<=W:=by rw[Int.sub_mul,ahR];omega
  have:=Int.le_ediv_of_mul_le hVp e3
  omega
 have hbase:W / V<=T / v1:=by
  have e1:W<(T / v1+1)*V:=by
   have f1:T+1<=(T / v1+1)*v1:=by
    have:(T / v1+1)*v1=v1*(T / v1)+v1:=by rw[ahP,ahR,ahB]
    omega
   have f2:T*1048576+w2+1<=(T / v1+1)*(v1*1048576+v2):=by
    have g1:(T+1)*1048576<=(T / v1+1)*v1*1048576:=ahS f1 (by omega)
    have g2:0<=(T / v1+1)*v2:=ahN (by omega) b2.1
    rw[ahE,<- ahF]
    omega
   have f3:pw (n-2)*(T*1048576+w2+1)<=pw (n-2)*((T / v1+1)*(v1*1048576+v2)):=ahD f2 (by omega)
   have f4:(T / v1+1)*(pw (n-2)*(v1*1048576+v2))<=(T / v1+1)*V:=ahD hV.1 (by omega)
   have f5:pw (n-2)*((T / v1+1)*(v1*1048576+v2))=(T / v1+1)*(pw (n-2)*(v1*1048576+v2)):=ahO _ _ _
   omega
  have:=ahK hVp e1
  omega
 refine Dx (I:=fun (s:Int×Int)=>s.1*v1+s.2=T∧W / V<=s.1∧s.1<=2097152∧0<=s.2) (μ:=fun (s:Int×Int)=>s.1.toNat) _ ⟨?_,hbase,hd1,hm0⟩ (by unfold FU;omega) ?_
 ·show T / v1*v1+T % v1=T
  rw[ahB];exact hm
 rintro⟨g,r⟩ ⟨h1,h2,h3,h4⟩
 simp only at h1 h2 h3 h4
 have hgv:0<=g*v1:=ahN (by omega) (by omega)
 simp only[qE]
 have el:IntKind.i64.wrap ((v.length:Int)-2)=((n-2:Nat):Int):=by rw[hlen,jL (by omega)];omega
 have ei:IntKind.i64.wrap ((IntKind.i64.wrap ((i:Int)+(v.length:Int)))-2)=((i+n-2:Nat):Int):=by rw[hlen,jL (x:=(i:Int)+n) (by omega),jL (by omega)];omega
 rw[el,ei]
 have hstep:W / V<=g-1->∃s':Int×Int,(some (Sum.inl (IntKind.i64.wrap (g-1),IntKind.i64.wrap (r+v1))):Option ((Int×Int)⊕Int))=some (.inl s')∧(s'.1*v1+s'.2=T∧W / V<=s'.1∧s'.1<=2097152∧0<=s'.2)∧s'.1.toNat<g.toNat:=by
  intro hlt
  refine⟨_,rfl,?_⟩
  rw[jL (x:=g-1) (by omega),jL (x:=r+v1) (by omega)]
  simp only
  refine⟨⟨by rw[Int.sub_mul,ahR];omega,hlt,by omega,by omega⟩,by omega⟩
 by_cases hgB:g>=1048576
 ·rw[if_pos (by simpa using hgB),ag5,if_pos rfl]
  exact .inl (hstep (by omega))
 ·rw[if_neg (by simpa using hgB)]
  by_cases hr:r<1048576
  ·have hgv2:0<=g*v2:=ahN (by omega) b2.1
   have hgv2':g*v2<=1048576*1048576:=Int.mul_le_mul (by omega) (by omega) b2.1 (by omega)
   rw[if_pos (by simpa using hr),hv2,ag5,YF h4 (by omega),ag5,hw2,ag5,jL (x:=g*v2) (by omega),Q4 h4 (by omega) bw,ag5]
   by_cases ht:g*v2>1048576*r+w2
   ·rw[if_pos (by simpa using ht)]
    exact .inl (hstep (hge g r h1 h2 (by omega)))
   ·rw[if_neg (by simpa using ht)]
    exact .inr ⟨g,rfl,h2,hle g r h1 (by omega) (by omega) (by omega),by omega⟩
  ·rw[if_neg (by simpa using hr),ag5,if_neg (by simp)]
   refine .inr ⟨g,rfl,h2,hle g r h1 (by omega) (by omega) ?_,by omega⟩
   have:g*v2<=1048575*1048575:=Int.mul_le_mul (by omega) (by omega) b2.1 (by omega)
   have:1048576*1048576<=r*1048576:=ahS (by omega) (by omega)
   omega
theorem acu {α:Type} {l:List α} {a b:Nat} (h:a<=b) (hb:b<=l.length):Bm l (a:Int) (b:Int)=some ((l.drop a).take (b-a)):=by
 unfold Bm
 rw[if_pos ⟨by omega,by omega,by omega⟩]
 simp
theorem aag {l:List Int} {n:Nat} (hl:l.length=n) (hn:2<=n) (hd:Dg l) :
  pw (n-2)*((l[n-1]'(by omega))*1048576+l[n-2]'(by omega))<=dv l∧dv l<pw (n-2)*((l[n-1]'(by omega))*1048576+l[n-2]'(by omega)+1):=by
 have e:=iu l (i:=n-2) (by omega)
 rw[lF (by omega),lF (i:=n-2+1) (by omega),ahh (by omega)]at e
 have e1:l[n-2+1]'(by omega)=l[n-1]'(by omega):=by congr 1;omega
 rw[e1]at e
 have h1:=cU (hd.take (n-2))
 have h2:=oF (hd.take (n-2))
 rw[afO,agI (by omega)]at h2
 simp only[dv]at e
 have e2:l[n-2]'(by omega)+1048576*(l[n-1]'(by omega)+1048576*0)=(l[n-1]'(by omega))*1048576+l[n-2]'(by omega):=by omega
 rw[e2]at e
 rw[ahE (pw (n-2)) _ 1,ahC]
 omega
theorem aah {l:List Int} {n:Nat} (hl:l.length=n+1) (hn:2<=n) (hd:Dg l) :
  pw (n-2)*((1048576*(l[n]'(by omega))+l[n-1]'(by omega))*1048576+l[n-2]'(by omega))<=dv l∧dv l<pw (n-2)*((1048576*(l[n]'(by omega))+l[n-1]'(by omega))*1048576+l[n-2]'(by omega)+1):=by
 have e:=iu l (i:=n-2) (by omega)
 rw[lF (by omega),lF (i:=n-2+1) (by omega),lF (i:=n-2+1+1) (by omega),ahh (by omega)]at e
 have e1:l[n-2+1]'(by omega)=l[n-1]'(by omega):=by congr 1;omega
 have e3:l[n-2+1+1]'(by omega)=l[n]'(by omega):=by congr 1;omega
 rw[e1,e3]at e
 have h1:=cU (hd.take (n-2))
 have h2:=oF (hd.take (n-2))
 rw[afO,agI (by omega)]at h2
 simp only[dv]at e
 have e2:l[n-2]'(by omega)+1048576*(l[n-1]'(by omega)+1048576*(l[n]'(by omega)+1048576*0))=(1048576*(l[n]'(by omega))+l[n-1]'(by omega))*1048576+l[n-2]'(by omega):=by omega
 rw[e2]at e
 rw[ahE (pw (n-2)) _ 1,ahC]
 omega
theorem W2 {v u0:List Int} {n m:Nat} (hv:Dg v) (hvl:v.length=n) (hn:2<=n) (hv1:524288<=v[n-1]'(by omega)) (hu:Dg u0) (hul:u0.length=m+n) (hf:m+n<=17592186044416) (hdr:dv (u0.drop m)<dv v) :
  ∃r,bf (qD v) ((m:Int)-1,u0,List.replicate m 0)=some r∧r.1.length=m+n∧Dg r.1∧r.2.length=m∧Dg r.2∧dv r.1+dv v*dv r.2=dv u0∧dv r.1<dv v:=by
 have hvn:=oF hv
 rw[hvl]at hvn
 refine fe (I:=fun i s=>s.1=((m-i:Nat):Int)-1∧s.2.1.length=m+n∧Dg s.2.1∧s.2.2.length=m∧Dg s.2.2∧(∀j (hj:j<s.2.2.length),j<m-i->s.2.2[j]=0)∧dv s.2.1+dv v*dv s.2.2=dv u0∧dv (s.2.1.drop (m-i))<dv v)
  m _ ⟨rfl,hul,hu,by simp,Dg.rep _,fun j hj _=>by simp,by simp[CA],hdr⟩ (oT (by omega)) ?_
 rintro i ⟨s,u,q⟩ hi ⟨h1,hl,hd,hql,hqd,hz,he,hdr⟩
 simp only at h1 hl hd hql hqd hz he hdr
 subst h1
 generalize hk:m-i=k at *
 simp only[qD]
 by_cases h0:0<k
 ·left
  have ek:((k:Int)-1)=((k-1:Nat):Int):=by omega
  rw[ek,if_pos (by simp)]
  have e1:IntKind.i64.wrap (((k-1:Nat):Int)+(v.length:Int))=((k-1+n:Nat):Int):=by rw[hvl,jL (by omega)];omega
  have e2:IntKind.i64.wrap (((k-1+n:Nat):Int)-1)=((k-1+n-1:Nat):Int):=by rw[jL (by omega)];omega
  have e3:IntKind.i64.wrap ((v.length:Int)-1)=((n-1:Nat):Int):=by rw[hvl,jL (by omega)];omega
  have e4:IntKind.i64.wrap (((k-1+n:Nat):Int)+1)=((k-1+n+1:Nat):Int):=by rw[jL (by omega)];omega
  have e5:IntKind.i64.wrap (((k-1:Nat):Int)-1)=((k-1:Nat):Int)-1:=jL (by omega)
  rw[e1,e2,e3,e4,e5]
  have i1:k-1+n<u.length:=by omega
  have i2:k-1+n-1<u.length:=by omega
  have i3:k-1+n-2<u.length:=by omega
  have iv:n-1<v.length:=by omega
  have iv2:n-2<v.length:=by omega
  have g1:=hd.get i1
  have g2:=hd.get i2
  have g3:=hd.get i3
  have gv:=hv.get iv
  have gv2:=hv.get iv2
  rw[cN i1,ag5,YF g1.1 (by omega),ag5,cN i2,ag5,cN iv,ag5,Q4 g1.1 (by omega) g2,ada (by omega) (by omega) (by omega),ag5,adq (by omega) (by omega),ag5,acu (by omega) (by omega),show k-1+n+1-(k-1)=n+1 by omega]
  generalize hw:(u.drop (k-1)).take (n+1)=w
  have hwl:w.length=n+1:=by rw[<- hw,afO,afP];omega
  have hwd:Dg w:=by rw[<- hw];exact (hd.drop _).take _
  have hwg:∀j (hj:j<n+1),w[j]'(by omega)=u[k-1+j]'(by omega):=by
   intro j hj
   subst hw
   rw[List.getElem_take,List.getElem_drop]
  have hup:dv (u.drop (k+n))=0:=by
   have s1:=iu (u.drop k) (i:=n) (by rw[afP];omega)
   rw[ahj]at s1
   have n1:=cU ((hd.drop k).take n)
   have n2:=cU (hd.drop (k+n))
   have hp:=oa n
   rcases (show dv (u.drop (k+n))=0∨1<=dv (u.drop (k+n)) by omega) with h|h
   ·exact h
   ·have:pw n*1<=pw n*dv (u.drop (k+n)):=ahD h (by omega)
    omega
  have hW:dv w=dv (u.drop (k-1)):=by
   have s1:=iu (u.drop (k-1)) (i:=n+1) (by rw[afP];omega)
   rw[ahj,show k-1+(n+1)=k+n by omega,hup,hw]at s1
   omega
  have hWk:dv w=u[k-1]+1048576*dv (u.drop k):=by
   rw[hW,lF (by omega),show k-1+1=k by omega]
  have gk:=hd.get (show k-1<u.length by omega)
  have hWV:dv w<1048576*dv v:=by omega
  have t2:=aag hvl hn hv
  have t3:=aah hwl hn hwd
  rw[hwg n (by omega),hwg (n-1) (by omega),hwg (n-2) (by omega)]at t3
  have a1:u[k-1+(n-1)]'(by omega)=u[k-1+n-1]'(by omega):=by congr 1;omega
  have a2:u[k-1+(n-2)]'(by omega)=u[k-1+n-2]'(by omega):=by congr 1;omega
  rw[a1,a2]at t3
  obtain⟨g,q1,q2,q3,q4⟩:=Qt (s13:=((k-1:Nat):Int)) hn hvl (by omega) (k-1) rfl (by omega) (cN iv2) (cN i3) ⟨hv1,gv.2⟩ gv2 g3 (T:=1048576*u[k-1+n]+u[k-1+n-1]) (by omega) (by omega) t2 t3 hWV
  rw[q1,ag5,ag5]
  have hVp:0<dv v:=by
   have:=cU hwd
   omega
  obtain⟨l,r1,r2,r3,r4⟩:=VJ hwd hv (by unfold Fit;omega) (by omega) hVp q2 q3 q4
  have iq:k-1<q.length:=by omega
  rw[r1,ag5,cN iq,ag5]
  simp only
  have hq0:0<=dv w / dv v:=ahJ (cU hwd) (by omega)
  have hqB:dv w / dv v<1048576:=ahK hVp hWV
  have hmod:=ahL (dv w) hVp
  simp only[Int.toNat_natCast]
  have hdl:dv (l++u.drop (k-1+n+1))=dv w % dv v:=by
   rw[iK,show k-1+n+1=k+n by omega,hup,r4];omega
  have hut:(u.take (k-1)).length=k-1:=by rw[afO];omega
  have hdu:dv (u.take (k-1)++(l++u.drop (k-1+n+1)))=dv (u.take (k-1))+pw (k-1)*(dv w % dv v):=by rw[iK,hut,hdl]
  refine⟨by omega,_,rfl,by rw[show m-(i+1)=k-1 by omega],?_,(hd.take _).append (r3.append (hd.drop _)),by simpa using hql,hqd.set _ ⟨hq0,hqB⟩,fun j hj hjk =>?_,?_,?_⟩
  ·simp only[agF,afO,afP];omega
  ·rw[ahH (by omega)]
   exact hz j (by simpa using hj) (by omega)
  ·rw[hdu,sR iq,hz _ iq (by omega),Int.sub_zero,ahE]
   have s2:=iu u (i:=k-1) (by omega)
   rw[<- hW]at s2
   have hm:=ahM (dv w) (dv v)
   have:pw (k-1)*dv w=dv v*(pw (k-1)*(dv w / dv v))+pw (k-1)*(dv w % dv v):=by
    rw[ahO,<- ahE,hm]
   omega
  ·rw[show m-(i+1)=k-1 by omega,ahg,hut,agH,agX,ahh (by omega),ahe,hdl]
   exact hmod
 ·right
  have:k=0:=by omega
  subst this
  refine⟨(u,q),by rw[if_neg (by simp)],hl,hd,hql,hqd,he,?_⟩
  simpa using hdr
theorem Rb {v:List Int} {t:Int} {n:Nat} (hl:v.length=n) (hn:0<n) (hf:n<=17592186044416) (ht:v[n-1]'(by omega)=t) (h1:1<=t) (h2:t<1048576) :
  ∃s,bf (qC v) 1=some s∧∃j:Nat,s=2 ^ j∧j<=19∧524288<=t*s∧t*s<1048576:=by
 refine fe (I:=fun i s=>s=2 ^ i∧t*s<1048576) 20 _ ⟨rfl,by omega⟩ (by unfold FU;omega) ?_
 rintro i s hi ⟨rfl,hb⟩
 have hp:(0:Int)<2 ^ i:=Int.pow_pos (by decide)
 have hpt:(2:Int) ^ i<=t*2 ^ i:=by
  have:1*(2:Int) ^ i<=t*2 ^ i:=ahS h1 (by omega)
  omega
 have hi20:i<=19:=by
  rcases agh 19 i with h|h
  ·have hx:i=20:=by omega
   subst hx
   omega
  ·exact h
 simp only[qC]
 have e:IntKind.i64.wrap ((v.length:Int)-1)=((n-1:Nat):Int):=by rw[hl,jL (by omega)];omega
 rw[e,cN (by omega),ag5,ht,jL (x:=t*2 ^ i) (by omega)]
 by_cases h:t*2 ^ i<524288
 ·left
  rw[if_pos (by simpa using h)]
  refine⟨by omega,_,rfl,by rw[jL (by omega),Int.pow_succ],?_⟩
  rw[jL (by omega),<- ahF]
  omega
 ·right
  rw[if_neg (by simpa using h)]
  exact⟨_,rfl,i,rfl,hi20,by omega,hb⟩
theorem div_eq {m n:Nat} (hn:n≠0) (hfm:(bc m).length<=17592186043904) (hfn:(bc n).length<=17592186043904):oD (bc m) (bc n)=some (bc (m / n),bc (m % n)):=by
 unfold oD
 rw[Cj (by unfold Fit;omega) (by unfold Fit;omega),ag5]
 by_cases hlt:m<n
 ·have:sg (m:Int) n<0:=by unfold sg;rw[if_pos (by omega)];decide
  rw[if_pos (by simpa using this),sJ (by unfold Fit;omega),ag5,Nat.div_eq_of_lt hlt,agr hlt,cT]
 have:¬sg (m:Int) n<0:=by unfold sg;rw[if_neg (by omega)];split<;>decide
 rw[if_neg (by simpa using this)]
 obtain⟨hp1,hp2⟩:=xb hn
 have hnl:=iC n
 by_cases h1:(bc n).length=1
 ·rw[if_pos (by simp;omega)]
  have hnB:(n:Int)<1048576:=by rw[h1]at hnl;simpa [pw] using hnl
  have e:bc n=[(n:Int)]:=by
   rw[lW hn,Nat.div_eq_of_lt (by omega),cT,agr (by omega)]
  have ei:P.idx (bc n) 0=some (n:Int):=by rw[e];rfl
  rw[ei,ag5,OV (dQ m) ⟨by omega,by omega⟩ (by unfold Fit;omega),ag5,bY]
  have hm1:(m:Int) % n=((m % n:Nat):Int):=(Int.natCast_emod m n).symm
  have hm2:((m:Int) / n).toNat=m / n:=by
   rw[<- Int.natCast_ediv];rfl
  have hml:m % n<n:=Nat.mod_lt _ (by omega)
  simp only[hm1,hm2]
  rw[BC (n:=m % n) (by simp[Fit]) (Dg.mk (by omega) Dg.nil) (by simp[dv]),ag5]
 ·rw[if_neg (by simp;omega)]
  generalize hN:(bc n).length=N at *
  have hN2:2<=N:=by omega
  have hdn:=dQ n
  have gt:=hdn.get (show N-1<(bc n).length by omega)
  generalize ht:(bc n)[N-1]'(by omega)=t at gt
  have hsp:=iu (bc n) (i:=N-1) (by omega)
  rw[bY,lF (by omega),ahh (by omega),ht]at hsp
  simp only[dv,ahQ,Int.add_zero]at hsp
  have lo0:=cU (hdn.take (N-1))
  have lo1:=oF (hdn.take (N-1))
  rw[afO,agI (by omega)]at lo1
  have hpw:=oa (N-1)
  have ht1:1<=t:=by
   rcases (show t=0∨1<=t by omega) with h|h
   ·subst h;omega
   ·exact h
  obtain⟨s,hs1,j,hs2,hj,hs3,hs4⟩:=Rb hN (by omega) (by omega) ht ht1 gt.2
  have hj2:(2:Int) ^ j<=524288:=by
   have:∀j:Nat,j<=19->(2:Int) ^ j<=524288:=by decide
   exact this j hj
  have hj1:(0:Int)<2 ^ j:=Int.pow_pos (by decide)
  have hts:(t+1)*s<=1048576:=by
   have h20:(1048576:Int)=2 ^ (20-j)*2 ^ j:=by rw[<- Int.pow_add,Nat.sub_add_cancel (by omega)];rfl
   rw[h20]at hs4 ⊢
   rw[hs2]at hs4 ⊢
   have:t<2 ^ (20-j):=Int.lt_of_mul_lt_mul_right hs4 (by omega)
   exact ahS (by omega) (by omega)
  rw[<- hs2]at hj1 hj2
  obtain⟨S,rfl⟩:∃S:Nat,s=S:=⟨s.toNat,by omega⟩
  have hSd:Dg [(S:Int)]:=Dg.mk (by omega) Dg.nil
  have hdvS:dv [(S:Int)]=S:=by simp[dv]
  rw[hs1,ag5,mul_eq (dQ m) hSd (by simp;omega),ag5,bY,hdvS]
  have em:((m:Int)*S).toNat=m*S:=by rw[<- agu];rfl
  have en:((n:Int)*S).toNat=n*S:=by rw[<- agu];rfl
  rw[em]
  have hmS:(bc (m*S)).length<=(bc m).length+1:=by
   apply kc
   rw[lO,agu]
   have a1:=iC m
   have:(m:Int)*S<=m*1048576:=ahD (by omega) (by omega)
   omega
  have hU:∃u,((if ((((bc (m*S)++[0]).length:Int))==((bc m).length:Int))=true then (lk 8 (bc (m*S)++[0]) [0]).bind fun x98=>some x98 else some (bc (m*S)++[0]))=some u)∧Dg u∧dv u=(m*S:Nat)∧dv u<pw (u.length-1)∧(bc (m*S)).length+1<=u.length∧u.length<=(bc m).length+3:=by
   have d1:Dg (bc (m*S)++[0]):=(dQ _).append (Dg.mk (by omega) Dg.nil)
   have v1:dv (bc (m*S)++[0])=(m*S:Nat):=by rw[iK,bY];simp[dv]
   have v2:=iC (m*S)
   split
   ·rw[PG (by simp;omega),ag5]
    refine⟨_,rfl,d1.append (Dg.mk (by omega) Dg.nil),by rw[iK,v1];simp[dv],?_,by simp,by simp;omega⟩
    rw[iK,v1]
    simp only[dv,agF,List.length_cons,List.length_nil]
    have:=rp (i:=(bc (m*S)).length) (j:=(bc (m*S)).length+1) (by omega)
    rw[show (bc (m*S)).length+(0+1)+(0+1)-1=(bc (m*S)).length+1 by omega]
    omega
   ·refine⟨_,rfl,d1,v1,?_,by simp,by simp;omega⟩
    rw[v1]
    simpa using v2
  obtain⟨u,hu1,hu2,hu3,hu4,hu5,hu6⟩:=hU
  rw[PG (by simp;omega),ag5,mul_eq (dQ n) hSd (by simp;omega),ag5,bY,hdvS,en,hu1,ag5]
  have hVlo:524288*pw (N-1)<=((n*S:Nat):Int):=by
   rw[agu,hsp,ahP]
   have a1:0<=dv ((bc n).take (N-1))*S:=ahN lo0 (by omega)
   have a2:pw (N-1)*524288<=pw (N-1)*(t*S):=ahD hs3 (by omega)
   rw[ahF]
   omega
  have hVhi:((n*S:Nat):Int)<pw N:=by
   have a0:pw N=1048576*pw (N-1):=by rw[<- lO];congr 1;omega
   rw[a0,agu,hsp]
   have a1:(dv ((bc n).take (N-1))+pw (N-1)*t+1)*S<=(pw (N-1)*(t+1))*S:=ahS (by rw[ahE];omega) (by omega)
   have a2:pw (N-1)*((t+1)*S)<=pw (N-1)*1048576:=ahD hts (by omega)
   rw[ahF]at a1
   rw[ahP _ 1,ahR]at a1
   omega
  have hVN:(bc (n*S)).length=N:=by
   have a1:=kc hVhi
   rcases agh (bc (n*S)).length N with h|h
   ·have a2:=iC (n*S)
    have a3:=rp (i:=(bc (n*S)).length) (j:=N-1) (by omega)
    omega
   ·omega
  have hV1:524288<=(bc (n*S))[N-1]'(by omega):=by
   have a1:=iu (bc (n*S)) (i:=N-1) (by omega)
   rw[bY,lF (by omega),ahh (by omega)]at a1
   simp only[dv,ahQ,Int.add_zero]at a1
   have a2:=oF ((dQ (n*S)).take (N-1))
   rw[afO,agI (by omega)]at a2
   have a3:pw (N-1)*524288<pw (N-1)*((bc (n*S))[N-1]'(by omega)+1):=by rw[ahE];omega
   have:=Int.lt_of_mul_lt_mul_left a3 (by omega)
   omega
  have hlen:N+1<=u.length:=by
   have:n*S<=m*S:=agi _ (by omega)
   have:=eH this
   omega
  obtain⟨M,hM⟩:∃M,u.length=M+N:=⟨u.length-N,by omega⟩
  have e1:IntKind.i64.wrap ((u.length:Int)-((bc (n*S)).length:Int))=(M:Int):=by rw[hVN,hM,jL (by omega)];omega
  rw[e1,mk0 (by omega),ag5,List.length_replicate,jL (x:=(M:Int)-1) (by omega)]
  have hdr:dv (u.drop M)<dv (bc (n*S)):=by
   rw[bY]
   have a1:=iu u (i:=M) (by omega)
   have a2:=cU (hu2.take M)
   have a3:pw M*dv (u.drop M)<pw M*pw (N-1):=by
    rw[<- Ke,show M+(N-1)=u.length-1 by omega]
    omega
   have:=Int.lt_of_mul_lt_mul_left a3 (by have:=oa M;omega)
   omega
  obtain⟨⟨U,Q⟩,r1,r2,r3,r4,r5,r6,r7⟩:=W2 (dQ (n*S)) hVN hN2 hV1 hu2 hM (by omega) hdr
  simp only at r2 r3 r4 r5 r6 r7
  rw[r1,ag5]
  simp only
  rw[bY,hu3]at r6
  rw[bY]at r7
  have hU0:=cU r3
  have hQ0:=cU r5
  have hS:0<S:=by omega
  have hnS:0<n*S:=Nat.mul_pos (by omega) hS
  obtain⟨U',hU'⟩:∃k:Nat,dv U=k:=⟨(dv U).toNat,by omega⟩
  obtain⟨Q',hQ'⟩:∃k:Nat,dv Q=k:=⟨(dv Q).toNat,by omega⟩
  rw[hU',hQ']at r6
  rw[hU']at r7
  have hnat:U'+n*S*Q'=m*S:=by
   have:((U'+n*S*Q':Nat):Int)=((m*S:Nat):Int):=by rw[Int.natCast_add,agu (n*S) Q'];exact r6
   omega
  have hUlt:U'<n*S:=by omega
  have hQe:Q'=m / n:=by
   have:m*S / (n*S)=Q':=by
    rw[<- hnat,Nat.add_mul_div_left _ _ hnS,Nat.div_eq_of_lt hUlt,agj]
   rw[<- this,Nat.mul_div_mul_right _ _ hS]
  have hUe:U'=(m % n)*S:=by
   have:m*S % (n*S)=U':=by rw[<- hnat,Nat.add_mul_mod_self_left,agr hUlt]
   rw[<- this,Nat.mul_mod_mul_right]
  rw[BC (n:=U') (by unfold Fit;omega) r3 hU',ag5]
  have hUlen:(bc U').length<=N:=kc (by omega)
  rw[OV (dQ U') ⟨by omega,by omega⟩ (by unfold Fit;omega),ag5,BC (n:=Q') (by unfold Fit;omega) r5 hQ',ag5,bY,hQe,hUe]
  have:((((m % n)*S:Nat):Int) / (S:Int)).toNat=m % n:=by
   rw[agu,Int.mul_ediv_cancel _ (by omega)];rfl
  rw[this]
def hX (x:Int):aj:=aj.mk x.sign (bc x.natAbs)
def Ln (x:Int):Nat:=(bc x.natAbs).length
def jt:Nat:=4398046511104
def su:Nat:=17592186043904
theorem wV {n:Nat} (h:n<=jt):n<=su:=afx h (by decide)
theorem NS:hX 0=aj.mk 0 []:=by unfold hX;rw[show (0:Int).natAbs=0 from rfl,cT];rfl
theorem Tg {x y:Int} (h:hX x=hX y):x=y:=by
 unfold hX at h
 simp only[aj.mk.injEq]at h
 have:=W0 h.2
 have h1:=Int.sign_mul_natAbs x
 have h2:=Int.sign_mul_natAbs y
 rw[<- h1,<- h2,h.1,this]
theorem Wd {x:Int} {k:Nat} (h:(x.natAbs:Int)<pw k):Ln x<=k:=kc h
theorem Td (x:Int):(x.natAbs:Int)<pw (Ln x):=iC _
theorem RR {x y:Int} (h:x.natAbs<=y.natAbs):Ln x<=Ln y:=eH h
theorem PA (x:Int):Ln (-x)=Ln x:=by unfold Ln;rw[Int.natAbs_neg]
theorem Pz (x y:Int):Ln (x+y)<=max (Ln x) (Ln y)+1:=by
 apply Wd
 have h1:=Td x
 have h2:=Td y
 have h3:=rp (i:=Ln x) (j:=max (Ln x) (Ln y)) (by omega)
 have h4:=rp (i:=Ln y) (j:=max (Ln x) (Ln y)) (by omega)
 have h5:=Int.natAbs_add_le x y
 rw[lO]
 omega
theorem wh (x y:Int):Ln (x*y)<=Ln x+Ln y:=by
 apply Wd
 have h1:=Td x
 have h2:=Td y
 rw[ahT,agu,Ke]
 have hx:=oa (Ln x)
 calc (x.natAbs:Int)*y.natAbs<=pw (Ln x)*y.natAbs:=ahS (by omega) (by omega)
  _<pw (Ln x)*pw (Ln y):=Int.mul_lt_mul_of_pos_left h2 hx
theorem KF {x:Int} (h:x.natAbs<1048576):Ln x<=1:=Wd (by rw[lO,rq];omega)
instance (l:List Int):Decidable (Dg l):=by unfold Dg;infer_instance
def okB (b:aj):Bool:=decide (Dg b.aa)&&(match b.aa.getLast? with|none=>b.ae==0|some d=>(b.ae==1||b.ae == -1)&&d != 0)
theorem xT {b:aj} : okB b=true↔∃x,b=hX x:=by
 obtain⟨s,l⟩:=b
 unfold okB
 simp only[af6,decide_eq_true_eq]
 constructor
 ·rintro⟨hd,h⟩
  cases hl:l.getLast? with
  | none =>
   rw[hl]at h
   have:l=[]:=List.getLast?_eq_none_iff.1 hl
   subst this
   exact⟨0,by rw[NS];simpa using h⟩
  | some d =>
   rw[hl]at h
   simp only[af6,ag6,beq_iff_eq,bne_iff_ne]at h
   have hne:l≠[]:=by intro h0;subst h0;simp at hl
   have hlast:∀h:l≠[],l.getLast h≠0:=by
    intro h'
    rw[ahU h']at hl
    cases hl
    exact h.2
   have e:=Bt hd hlast
   have h0:(dv l).toNat≠0:=by
    intro h0
    rw[h0,cT]at e
    exact hne e.symm
   have hn:=cU hd
   refine⟨s*dv l,?_⟩
   unfold hX
   rcases h.1 with rfl|rfl
   ·rw[ahR,ahV (by omega)]
    have:(dv l).natAbs=(dv l).toNat:=by omega
    rw[this,e]
   ·rw[Int.neg_mul,ahR,Int.sign_neg,ahV (by omega)]
    have:(-dv l).natAbs=(dv l).toNat:=by omega
    rw[this,e]
 ·rintro⟨x,hx⟩
  unfold hX at hx
  simp only[aj.mk.injEq]at hx
  obtain⟨rfl,rfl⟩:=hx
  refine⟨dQ _,?_⟩
  by_cases h0:x=0
  ·subst h0;simp[cT]
  ·have hne:bc x.natAbs≠[]:=fun h=>h0 (by have:=sM.1 h;omega)
   rw[ahU hne]
   have h1:=UD _ hne
   simp only[af6,ag6,beq_iff_eq,bne_iff_ne]
   refine⟨?_,h1⟩
   rcases ahy x 0 with h|h|h
   ·right;exact ahW h
   ·exact absurd h h0
   ·left;exact ahV h
theorem QR (x:Int):okB (hX x)=true:=xT.2 ⟨x,rfl⟩
theorem Ew {b:aj} (hf:Fit b.aa):ck b=some (okB b):=by
 obtain⟨s,l⟩:=b
 simp only[Fit]at hf
 have key:∃r,bf (mH ⟨s,l⟩) 0=some r∧(match r with | .inl _=>Dg l | .inr x=>x=false∧¬Dg l):=by
  refine fe (I:=fun i s=>s=(i:Int)∧Dg (l.take i)) l.length _ ⟨rfl,by simpa using Dg.nil⟩ (oT hf) ?_
  rintro i s hi ⟨rfl,hd⟩
  simp only[mH]
  by_cases hlt:i<l.length
  ·rw[if_pos (by simpa using hlt),cN hlt,ag5]
   by_cases h1:l[i]<0
   ·right
    exact⟨.inr false,by rw[if_pos (by simpa using h1)],rfl,fun hh=>by have:=hh.get hlt;omega⟩
   ·by_cases h2:l[i]>1048575
    ·right
     exact⟨.inr false,by rw[if_neg (by simpa using h1),if_pos (by simpa using h2)],rfl,fun hh=>by have:=hh.get hlt;omega⟩
    ·left
     refine⟨hlt,_,by rw[if_neg (by simpa using h1),if_neg (by simpa using h2)],by rw[jL (by omega)];omega,?_⟩
     have e:l.take (i+1)=l.take i++[l[i]]:=by rw[List.take_add_one];simp[hlt]
     rw[e]
     exact hd.append (Dg.mk (by omega) Dg.nil)
  ·right
   have:i=l.length:=by omega
   subst this
   rw[ahw]at hd
   exact⟨.inl (),by rw[if_neg (by simp)],hd⟩
 obtain⟨r,h1,h2⟩:=key
 unfold ck okB
 rw[h1,ag5]
 cases r with
 | inr x =>
  obtain⟨rfl,h⟩:=h2
  simp[h]
 | inl u =>
  simp only at h2 ⊢
  simp only[h2,decide_true,agZ]
  by_cases h0:l=[]
  ·subst h0;simp
  ·have hp:0<l.length:=ahl.2 h0
   have e:IntKind.i64.wrap ((l.length:Int)-1)=((l.length-1:Nat):Int):=by rw[jL (by omega)];omega
   rw[if_neg (by simpa using h0),e,cN (by omega),ahU h0,List.getLast_eq_getElem]
   simp only[Option.bind_some]
   by_cases hs:s=1
   ·subst hs;simp
   ·rw[if_neg (by simpa using hs)]
    by_cases hs':s = -1
    ·subst hs';simp
    ·rw[if_neg (by simpa using hs')]
     simp[hs,hs']
theorem gX {x:Int} (h:Ln x<=17592186044416):ck (hX x)=some true:=by
 rw[Ew (show Fit (hX x).aa from h),QR]
theorem vc {s:Int} {l:List Int} (x:Int) (hf:Fit l) (hd:Dg l) (hv:dv l=x.natAbs) (hs:x≠0->s=x.sign):cw s l=some (hX x):=by
 unfold cw
 rw[BC hf hd hv,ag5]
 by_cases h0:x=0
 ·subst h0
  rw[show (0:Int).natAbs=0 from rfl,cT,NS];rfl
 ·have:bc x.natAbs≠[]:=fun h=>h0 (by have:=sM.1 h;omega)
  rw[if_neg (by simpa using this),hs h0];rfl
theorem kC (b:aj):dL true b=some (b,0):=rfl
theorem vb (x:Int):x.sign = -1∨x.sign=0∨x.sign=1:=by
 rcases ahy x 0 with h|h|h
 ·left;exact ahW h
 ·subst h;right;left;rfl
 ·right;right;exact ahV h
theorem PB {x:Int} (h:Ln x<=jt):lE (hX x)=some (hX (-x)):=by
 unfold lE
 have hL:jt=4398046511104:=rfl
 rw[gX (by omega),ag5]
 simp only[agY,af5,if_false]
 have hf:Fit (hX x).aa:=by unfold Fit;show Ln x<=_;omega
 rw[sJ hf,ag5,vc (-x) hf (dQ _) (by show dv (bc _)=_;rw[bY,Int.natAbs_neg]),ag5]
 intro h0
 show IntKind.i64.wrap (0-x.sign)=_
 rw[jL (by have:=vb x;omega),Int.sign_neg,Int.zero_sub]
theorem aaW (s t:Int):sK [s,t]=some (if s≠0 then s else t):=by
 have key:∃r,bf (ub [s,t]) 0=some r∧(match r with | .inl _=>s=0∧t=0 | .inr x=>x=if s≠0 then s else t):=by
  refine fe (I:=fun i j=>j=(i:Int)∧(1<=i->s=0)∧(2<=i->t=0)) 2 _ ⟨rfl,by omega,by omega⟩ (by unfold FU;omega) ?_
  rintro i j hi ⟨rfl,h1,h2⟩
  simp only[ub]
  rcases (show i=0∨i=1∨i=2 by omega) with rfl|rfl|rfl
  ·rw[if_pos (by simp)]
   show _∨∃r,((some s).bind _=_)∧_
   rw[show P.idx [s,t] ((0:Nat):Int)=some s from rfl,ag5]
   by_cases hs:s=0
   ·left;exact⟨by omega,_,by rw[if_neg (by simpa using hs)],by rw[jL (by omega)];rfl,fun _=>hs,by omega⟩
   ·right;exact⟨_,by rw[if_pos (by simpa using hs)],by simp[hs]⟩
  ·have hs:=h1 (by omega)
   rw[if_pos (by simp),show P.idx [s,t] ((1:Nat):Int)=some t from rfl,ag5]
   by_cases ht:t=0
   ·left;exact⟨by omega,_,by rw[if_neg (by simpa using ht)],by rw[jL (by omega)];rfl,fun _=>hs,fun _=>ht⟩
   ·right;exact⟨_,by rw[if_pos (by simpa using ht)],by simp[hs]⟩
  ·right
   exact⟨.inl (),by rw[if_neg (by simp)],h1 (by omega),h2 (by omega)⟩
 obtain⟨r,h1,h2⟩:=key
 unfold sK
 rw[h1,ag5]
 cases r with
 | inl u=>simp only at h2 ⊢;rw[if_neg (by simp[h2.1]),h2.2]
 | inr x=>simp only at h2 ⊢;rw[h2]
theorem og (x:Int):x.sign=1∧x=x.natAbs∧0<x∨x.sign = -1∧x = -x.natAbs∧x<0∨x.sign=0∧x=0:=by
 rcases ahy x 0 with h|h|h
 ·right;left;exact⟨ahW h,by omega,h⟩
 ·subst h;right;right;exact⟨rfl,rfl⟩
 ·left;exact⟨ahV h,by omega,h⟩
theorem np {x:Int} {s:Int} {n:Nat} (hn:n=x.natAbs) (hs:x≠0->s=x.sign) (hL:n≠0->(bc n).length<=17592186044416):cw s (bc n)=some (hX x):=by
 subst hn
 refine vc x ?_ (dQ _) (bY _) hs
 unfold Fit
 by_cases h:x.natAbs=0
 ·rw[h,cT];simp
 ·exact hL h
theorem abH {x y:Int} (hx:Ln x<=jt) (hy:Ln y<=jt):qy (hX x) (hX y)=some (hX (x+y),0):=by
 have hL:jt=4398046511104:=rfl
 have hLa:=Pz x y
 unfold qy
 rw[gX (by omega),ag5]
 simp only[agY,af5,if_false]
 rw[gX (by omega),ag5,ag5]
 simp only[agY,af5,if_false]
 show (if decide (IntKind.i64.wrap (x.sign*y.sign)>=0)=true then _ else _)=_
 have hxd:(hX x).aa=bc x.natAbs:=rfl
 have hyd:(hX y).aa=bc y.natAbs:=rfl
 have hxs:(hX x).ae=x.sign:=rfl
 have hys:(hX y).ae=y.sign:=rfl
 rw[hxd,hyd,hxs,hys]
 have fx:(bc x.natAbs).length<=4398046511104:=by show Ln x<=_;omega
 have fy:(bc y.natAbs).length<=4398046511104:=by show Ln y<=_;omega
 have sx:=og x
 have sy:=og y
 have hw:IntKind.i64.wrap (x.sign*y.sign)=x.sign*y.sign:=by
  apply jL
  rcases vb x with h|h|h<;>rcases vb y with g|g|g<;>rw[h,g]<;>decide
 rw[hw]
 by_cases hs:x.sign*y.sign>=0
 ·rw[if_pos (by simpa using hs),aaW,ag5,add_eq (dQ _) (dQ _) (by omega) (by omega),ag5,bY,bY]
  have hn:((x.natAbs:Int)+y.natAbs).toNat=(x+y).natAbs:=by
   rcases sx with⟨a,b,c⟩|⟨a,b,c⟩|⟨a,b⟩<;>rcases sy with⟨a',b',c'⟩|⟨a',b',c'⟩|⟨a',b'⟩<;>first|omega|(rw[a,a']at hs;exact absurd hs (by decide))
  rw[hn,np (x:=x+y) rfl ?_ (fun _=>by show Ln (x+y)<=_;omega),ag5,kC,ag5]
  intro h0
  rcases sx with⟨a,b,c⟩|⟨a,b,c⟩|⟨a,b⟩<;>rcases sy with⟨a',b',c'⟩|⟨a',b',c'⟩|⟨a',b'⟩<;>(try (rw[a,a']at hs;exact absurd hs (by decide)))<;>rw[a,a']
  ·rw[if_pos (by decide),ahV (by omega)]
  ·rw[if_pos (by decide),ahV (by omega)]
  ·rw[if_pos (by decide),ahW (by omega)]
  ·rw[if_pos (by decide),ahW (by omega)]
  ·rw[if_neg (by decide),ahV (by omega)]
  ·rw[if_neg (by decide),ahW (by omega)]
  ·omega
 ·rw[if_neg (by simpa using hs),Cj (by unfold Fit;omega) (by unfold Fit;omega),ag5]
  have hsg:x.sign=1∧y.sign = -1∧0<x∧y<0∨x.sign = -1∧y.sign=1∧x<0∧0<y:=by
   rcases sx with⟨a,b,c⟩|⟨a,b,c⟩|⟨a,b⟩<;>rcases sy with⟨a',b',c'⟩|⟨a',b',c'⟩|⟨a',b'⟩<;>first|exact .inl ⟨a,a',c,c'⟩|exact .inr ⟨a,a',c,c'⟩|(rw[a,a']at hs;exact absurd (by decide) hs)
  by_cases hlt:x.natAbs<y.natAbs
  ·have:sg (x.natAbs:Int) y.natAbs<0:=by unfold sg;rw[if_pos (by omega)];decide
   rw[if_pos (by simpa using this),sub_eq (dQ _) (dQ _) (by unfold Fit;omega) (eH (by omega)) (by rw[bY,bY];omega),ag5,bY,bY]
   rw[np (x:=x+y) (by omega) ?_ (fun _=>by rw[show ((y.natAbs:Int)-x.natAbs).toNat=(x+y).natAbs by omega];show Ln (x+y)<=_;omega),ag5,kC,ag5]
   intro h0
   rcases hsg with⟨a,a',b,b'⟩|⟨a,a',b,b'⟩
   ·rw[a',ahW (by omega)]
   ·rw[a',ahV (by omega)]
  ·have:¬sg (x.natAbs:Int) y.natAbs<0:=by unfold sg;rw[if_neg (by omega)];split<;>decide
   rw[if_neg (by simpa using this),sub_eq (dQ _) (dQ _) (by unfold Fit;omega) (eH (by omega)) (by rw[bY,bY];omega),ag5,bY,bY]
   rw[np (x:=x+y) (by omega) ?_ (fun _=>by rw[show ((x.natAbs:Int)-y.natAbs).toNat=(x+y).natAbs by omega];show Ln (x+y)<=_;omega),ag5,kC,ag5]
   intro h0
   rcases hsg with⟨a,a',b,b'⟩|⟨a,a',b,b'⟩
   ·rw[a,ahV (by omega)]
   ·rw[a,ahW (by omega)]
theorem abN {x y:Int} (hx:Ln x<=jt) (hy:Ln y<=jt):qB (hX x) (hX y)=some (hX (x*y),0):=by
 have hL:jt=4398046511104:=rfl
 have hLa:=wh x y
 unfold qB
 rw[gX (by omega),ag5]
 simp only[agY,af5,if_false]
 rw[gX (by omega),ag5,ag5]
 simp only[agY,af5,if_false]
 have hxd:(hX x).aa=bc x.natAbs:=rfl
 have hyd:(hX y).aa=bc y.natAbs:=rfl
 have hxs:(hX x).ae=x.sign:=rfl
 have hys:(hX y).ae=y.sign:=rfl
 rw[hxd,hyd,hxs,hys]
 have fx:(bc x.natAbs).length<=4398046511104:=by show Ln x<=_;omega
 have fy:(bc y.natAbs).length<=4398046511104:=by show Ln y<=_;omega
 have hw:IntKind.i64.wrap (x.sign*y.sign)=(x*y).sign:=by
  rw[Int.sign_mul]
  apply jL
  rcases vb x with h|h|h<;>rcases vb y with g|g|g<;>rw[h,g]<;>decide
 rw[hw,mul_eq (dQ _) (dQ _) (by omega),ag5,bY,bY]
 have hn:((x.natAbs:Int)*y.natAbs).toNat=(x*y).natAbs:=by rw[ahT,<- agu];rfl
 rw[hn,np (x:=x*y) rfl (fun _=>rfl) (fun _=>by show Ln (x*y)<=_;omega),ag5,kC,ag5]
theorem EL {x y:Int} (hx:Ln x<=jt) (hy:Ln y<=jt):dt (hX x) (hX y)=some (hX (x*y)):=by
 unfold dt
 rw[abN hx hy];rfl
theorem V7 {x y:Int} (hx:Ln x<=jt) (hy:Ln y<=jt) (h0:0<y) (hd:y∣x):lD (hX x) (hX y)=some (hX (x / y),hX 0,0):=by
 have hL:jt=4398046511104:=rfl
 unfold lD
 rw[gX (by omega),ag5]
 simp only[agY,af5,if_false]
 rw[gX (by omega),ag5,ag5]
 simp only[agY,af5,if_false]
 have hxd:(hX x).aa=bc x.natAbs:=rfl
 have hyd:(hX y).aa=bc y.natAbs:=rfl
 have hxs:(hX x).ae=x.sign:=rfl
 have hys:(hX y).ae=1:=ahV h0
 rw[hxd,hyd,hxs,hys]
 have fx:(bc x.natAbs).length<=4398046511104:=by show Ln x<=_;omega
 have fy:(bc y.natAbs).length<=4398046511104:=by show Ln y<=_;omega
 have fq:=eH (Nat.div_le_self x.natAbs y.natAbs)
 obtain⟨z,rfl⟩:=hd
 have hyz:y*z / y=z:=Int.mul_ediv_cancel_left _ (by omega)
 have hn:(y*z).natAbs=y.natAbs*z.natAbs:=ahT _ _
 have hq:(y*z).natAbs / y.natAbs=z.natAbs:=by rw[hn,Nat.mul_div_cancel_left _ (by omega)]
 have hr:(y*z).natAbs % y.natAbs=0:=by rw[hn,Nat.mul_mod_right]
 have hsg:(y*z).sign=z.sign:=by rw[Int.sign_mul,ahV h0,ahR]
 rw[if_neg (by decide),div_eq (by omega) (by omega) (by omega),ag5,ahC,hsg,jL (x:=z.sign) (by have:=vb z;omega),hyz,hq,hr,cT]
 rw[hq]at fq
 have hT:(if decide (z.sign<0)=true then some (decide ((([]:List Int).length:Int)>0)) else some false)=some false:=by split<;>rfl
 simp only[hT,Option.bind_some,af5,if_false]
 rw[np (x:=z) rfl (fun _=>rfl) (fun _=>by omega),ag5]
 have:cw z.sign []=some (hX 0):=vc 0 (by simp[Fit]) Dg.nil rfl (fun h=>absurd rfl h)
 rw[this,ag5]
def lg (n:Nat):Nat:=if n=0 then 0 else n.log2+1
theorem adm {r x:Nat} (h:2*r<x):lg r<lg x:=by
 unfold lg
 rw[if_neg (show x≠0 by omega)]
 by_cases h0:r=0
 ·rw[if_pos h0];omega
 ·rw[if_neg h0]
  have h1:=Nat.log2_self_le h0
  have h2:=@Nat.lt_log2_self x
  have:2 ^ (r.log2+1)<2 ^ (x.log2+1):=by rw[Nat.pow_succ];omega
  have:=(Nat.pow_lt_pow_iff_right (by decide:1<2)).1 this
  omega
theorem abp {n k:Nat} (h:(n:Int)<pw k):lg n<=20*k:=by
 unfold lg
 by_cases h0:n=0
 ·rw[if_pos h0];omega
 ·rw[if_neg h0]
  have:n<2 ^ (20*k):=by
   have:pw k=((2 ^ (20*k):Nat):Int):=by
    unfold pw
    rw[Nat.pow_mul,Int.natCast_pow];rfl
   omega
  have:=(Nat.log2_lt h0).2 this
  omega
theorem XB {a b:Nat} (ha:(bc a).length<=su) (hb:(bc b).length<=su):bf nC (bc a,bc b)=some (bc (Nat.gcd a b)):=by
 have hL:su=17592186043904:=rfl
 have key:∃r,bf nC (bc a,bc b)=some r∧r=bc (Nat.gcd a b):=by
  have la:=abp (iC a)
  have lb:=abp (iC b)
  let val:List Int->Nat:=fun l=>(dv l).toNat
  have hval:∀n,val (bc n)=n:=fun n=>by show (dv (bc n)).toNat=n;rw[bY];rfl
  refine Dx (I:=fun (s:List Int×List Int)=>∃x y,s=(bc x,bc y)∧Nat.gcd x y=Nat.gcd a b∧(bc x).length<=su∧(bc y).length<=su)
   (μ:=fun (s:List Int×List Int)=>lg (val s.1)+lg (val s.2)+(if val s.1<val s.2 then 1 else 0)) _ ⟨a,b,rfl,rfl,ha,hb⟩ (by simp only[hval];unfold FU;split<;>omega) ?_
  rintro _ ⟨x,y,rfl,hg,hx,hy⟩
  simp only[nC]
  by_cases h0:y=0
  ·right
   subst h0
   refine⟨_,by rw[cT,if_neg (by simp)],?_⟩
   rw[<- hg,Nat.gcd_zero_right]
  ·left
   have hne:0<(bc y).length:=ahl.2 (fun h=>h0 (sM.1 h))
   rw[if_pos (by simpa using hne),div_eq h0 (by omega) (by omega),ag5]
   have hlt:=Nat.mod_lt x (Nat.pos_of_ne_zero h0)
   refine⟨_,rfl,⟨y,x % y,rfl,?_,hy,?_⟩,?_⟩
   ·rw[<- hg,Nat.gcd_comm y,<- Nat.gcd_rec,Nat.gcd_comm]
   ·have:=eH (Nat.mod_le x y);omega
   ·simp only[hval]
    rw[if_neg (by omega)]
    by_cases hxy:x<y
    ·rw[if_pos hxy,agr hxy];omega
    ·rw[if_neg hxy]
     have:lg (x % y)<lg x:=by
      apply adm
      have h1:=Nat.div_add_mod x y
      have h2:1<=x / y:=(Nat.one_le_div_iff (by omega)).2 (by omega)
      have h3:y*1<=y*(x / y):=Nat.mul_le_mul_left _ h2
      omega
     omega
 obtain⟨r,h1,rfl⟩:=key
 exact h1
theorem V9 {x y:Int} (hx:Ln x<=su) (hy:Ln y<=su):mG (hX x) (hX y)=some (hX (Int.gcd x y),0):=by
 have hL:su=17592186043904:=rfl
 unfold mG
 rw[gX (by omega),ag5]
 simp only[agY,af5,if_false]
 rw[gX (by omega),ag5,ag5]
 simp only[agY,af5,if_false]
 have hxd:(hX x).aa=bc x.natAbs:=rfl
 have hyd:(hX y).aa=bc y.natAbs:=rfl
 rw[hxd,hyd]
 have fx:(bc x.natAbs).length<=17592186043904:=by show Ln x<=_;omega
 have fy:(bc y.natAbs).length<=17592186043904:=by show Ln y<=_;omega
 have fg:(bc (Nat.gcd x.natAbs y.natAbs)).length<=17592186043904:=by
  by_cases h:y.natAbs=0
  ·rw[h,Nat.gcd_zero_right];exact fx
  ·have:=eH (Nat.gcd_le_right x.natAbs (Nat.pos_of_ne_zero h));omega
 rw[sJ (by unfold Fit;omega),ag5,XB (by omega) (by omega),ag5,sJ (by unfold Fit;omega),ag5]
 have hgn:Nat.gcd x.natAbs y.natAbs=((Int.gcd x y:Nat):Int).natAbs:=rfl
 rw[np (x:=(Int.gcd x y:Int)) hgn ?_ (fun _=>by omega),ag5,kC,ag5]
 intro h
 rw[ahV (by omega)]
theorem Un (x:Int):IntKind.u64.wrap x=x % 18446744073709551616:=by
 unfold IntKind.wrap
 simp only[IntKind.bits,IntKind.signed,ahs,af5,if_false]
 rfl
theorem wu {x:Int} (h:0<=x∧x<18446744073709551616):IntKind.u64.wrap x=x:=by rw[Un];omega
theorem Ux {x:Int} (h:0<=x∧x<18446744073709551616):jh .and .u64 x 1048575=x % 1048576:=by
 unfold jh
 simp only
 have e1:(BitVec.ofInt IntKind.u64.bits x &&& BitVec.ofInt IntKind.u64.bits 1048575).toNat=((x % 18446744073709551616).toNat) % 1048576:=by
  rw[BitVec.toNat_and,BitVec.toNat_ofInt,BitVec.toNat_ofInt]
  have e:((1048575:Int) % ((2 ^ IntKind.u64.bits:Nat):Int)).toNat=2 ^ 20-1:=by decide
  rw[e,ahG]
  rfl
 rw[e1,wu (by omega)]
 omega
theorem acr (x:Int):Bk .u64 x 20=some (x / 1048576):=by
 unfold Bk
 rw[if_neg (by decide)]
 have e:(2:Int) ^ (min (Int.toNat 20) IntKind.u64.bits)=1048576:=by decide
 rw[e,Int.fdiv_eq_ediv_of_nonneg _ (by decide)]
theorem pw4:pw 4=1208925819614629174706176:=by decide
theorem aaz {n:Nat} (hn:n<18446744073709551616):∃l,bf tY ((n:Int),[])=some l∧Dg l∧dv l=n∧l.length<=5:=by
 refine Dx (I:=fun (s:Int×List Int)=>0<=s.1∧Dg s.2∧dv s.2+pw s.2.length*s.1=n∧s.2.length<=5∧(s.1=0∨s.2.length<5)) (μ:=fun (s:Int×List Int)=>s.1.toNat) _ ⟨by simp,Dg.nil,by simp[dv,rq],by simp,by simp⟩ (by simp only[Int.toNat_natCast];unfold FU;omega) ?_
 rintro⟨u,l⟩ ⟨h1,hd,h2,h3,h5⟩
 simp only at h1 hd h2 h3 h5
 have hp:=oa l.length
 have hdl:=cU hd
 have hu:u<=n:=by
  have:1*u<=pw l.length*u:=ahS (by omega) h1
  omega
 simp only[tY]
 by_cases h0:u>0
 ·left
  have hl5:l.length<5:=by omega
  have hl4:l.length<4:=by
   rcases agh l.length 4 with h|h
   ·exact h
   ·have h4:l.length=4:=by omega
    rw[h4,pw4]at h2
    omega
  have hw:IntKind.i64.wrap (u % 1048576)=u % 1048576:=jL (by omega)
  rw[if_pos (by simpa using h0),Ux ⟨h1,by omega⟩,hw,PG (by simp;omega),ag5,acr,ag5]
  refine⟨_,rfl,⟨by simp only;omega,hd.append (Dg.mk (by omega) Dg.nil),?_,by simp;omega,by right;simp;omega⟩,by simp only;omega⟩
  simp only[iK,dv,agF,List.length_cons,List.length_nil,ahQ,Int.add_zero,agj]
  have:=zb l.length u
  omega
 ·right
  have:u=0:=by omega
  subst this
  refine⟨l,by rw[if_neg (by simp)],hd,?_,h3⟩
  rw[ahQ]at h2
  omega
theorem aaV {x:Int} (h : -9223372036854775808<=x∧x<9223372036854775808):pq x=some (hX x):=by
 have hT:(if decide (x<0)=true then some ((-1:Int),IntKind.u64.wrap (0-(IntKind.u64.wrap x))) else some (1,IntKind.u64.wrap x))=some (if x<0 then -1 else 1,((x.natAbs:Nat):Int)):=by
  by_cases hx:x<0
  ·rw[if_pos (by simpa using hx),if_pos hx,Un,Un]
   congr 2
   omega
  ·rw[if_neg (by simpa using hx),if_neg hx,Un]
   congr 2
   omega
 obtain⟨l,h1,h2,h3,h4⟩:=aaz (n:=x.natAbs) (by omega)
 unfold pq
 rw[hT,ag5]
 simp only
 rw[h1,ag5,tr]
 refine vc x (by unfold Fit;omega) h2 h3 (fun h0 =>?_)
 split
 ·rw[ahW (by omega)]
 ·rw[ahV (by omega)]
theorem aeT {d:Int} {i:Nat} (hi:i<=3) (hd:0<=d∧d<1048576) (h8:i=3->d<=8):FI .u64 (IntKind.u64.wrap d) (IntKind.i64.wrap (20*(i:Int)))=some (pw i*d):=by
 rw[wu (by omega),jL (by omega)]
 unfold FI
 rw[if_neg (by omega)]
 have e:(2:Int) ^ (min (20*(i:Int)).toNat IntKind.u64.bits)=pw i:=by
  have:∀i:Nat,i<=3->(2:Int) ^ (min (20*(i:Int)).toNat IntKind.u64.bits)=pw i:=by decide
  exact this i hi
 rw[e,wu,ahB]
 rcases (show i=0∨i=1∨i=2∨i=3 by omega) with rfl|rfl|rfl|rfl
 ·rw[show pw 0=1 by decide];omega
 ·rw[show pw 1=1048576 by decide];omega
 ·rw[show pw 2=1099511627776 by decide];omega
 ·rw[show pw 3=1152921504606846976 by decide];have:=h8 rfl;omega
theorem ady {u d:Int} {i:Nat} (hi:i<=3) (hu:0<=u∧u<pw i) (hd:0<=d∧pw i*d<9223372036854775809):jh .or .u64 u (pw i*d)=u+pw i*d:=by
 have hp:=oa i
 have hpd:0<=pw i*d:=ahN (by omega) hd.1
 have hpw:pw i=((2 ^ (20*i):Nat):Int):=by unfold pw;rw[Nat.pow_mul,Int.natCast_pow];rfl
 have hp3:pw i<=1152921504606846976:=by
  have:=rp hi
  rwa [show pw 3=1152921504606846976 by decide]at this
 unfold jh
 simp only
 have e1:(BitVec.ofInt IntKind.u64.bits u ||| BitVec.ofInt IntKind.u64.bits (pw i*d)).toNat=(u+pw i*d).toNat:=by
  rw[BitVec.toNat_or,BitVec.toNat_ofInt,BitVec.toNat_ofInt]
  have e:((2 ^ IntKind.u64.bits:Nat):Int)=18446744073709551616:=by decide
  rw[e]
  have e2:(u % 18446744073709551616).toNat=u.toNat:=by omega
  have e3:((pw i*d) % 18446744073709551616).toNat=d.toNat <<< (20*i):=by
   rw[Nat.shiftLeft_eq,Int.emod_eq_of_lt hpd (by omega),hpw]
   have:d=(d.toNat:Int):=by omega
   rw[this,<- agu,agv,agv,agt]
  rw[e2,e3,Nat.or_comm,<- Nat.shiftLeft_add_eq_or_of_lt (by omega),Nat.shiftLeft_eq]
  have:pw i*d=((d.toNat*2 ^ (20*i):Nat):Int):=by
   rw[hpw,agu,ahB]
   congr 1
   omega
  omega
 rw[e1,wu (by omega)]
 omega
theorem aci {g:Nat} (h:(bc g).length<=su):nS (hX g)=some (decide (g=1)):=by
 have hL:su=17592186043904:=rfl
 have hgd:(hX (g:Int)).aa=bc g:=rfl
 have hLn:Ln (g:Int)=(bc g).length:=rfl
 unfold nS
 have hsmall:g=1->(bc g).length<=4:=by
  rintro rfl
  exact afx (kc (k:=1) (by decide)) (by decide)
 suffices hI:∃r,qz (hX g)=some r∧((if r.2=true then some (r.1==1) else some false)=some (decide (g=1))) by
  obtain⟨r,h1,h2⟩:=hI
  rw[h1,ag5,h2]
 unfold qz
 rw[gX (by rw[hLn];omega),ag5]
 simp only[agY,af5,if_false,Option.bind_some,hgd]
 by_cases h4:(bc g).length>4
 ·rw[if_pos (by simp;omega)]
  refine⟨_,rfl,?_⟩
  have:g≠1:=fun hh=>by have:=hsmall hh;omega
  simp[this]
 rw[if_neg (by simp;omega)]
 have key:∃r,bf (qA (hX g)) (0,0)=some r∧(match r with | .inl u=>u=(g:Int) | .inr x=>x=(0,false)∧g≠1):=by
  refine fe (I:=fun i s=>s.2=(i:Int)∧s.1=dv ((bc g).take i)) (bc g).length _ ⟨rfl,rfl⟩ (oT (by omega)) ?_
  rintro i ⟨u,s⟩ hi ⟨h1,h2⟩
  simp only at h1 h2
  subst h1 h2
  simp only[qA,hgd]
  have hdg:=(dQ g).take i
  have hu0:=cU hdg
  have hu1:=oF hdg
  rw[afO,agI hi]at hu1
  by_cases hlt:i<(bc g).length
  ·have gd:=(dQ g).get hlt
   rw[if_pos (by simpa using hlt),cN hlt,ag5]
   have hT:(if ((i:Int)==3)=true then some (decide ((bc g)[i]>8)) else some false)=some (decide (i=3∧(bc g)[i]>8)):=by
    by_cases h3:i=3
    ·subst h3;simp
    ·rw[if_neg (by simp;omega)];simp[h3]
   rw[hT,ag5]
   by_cases h8:i=3∧(bc g)[i]>8
   ·right
    rw[if_pos (by simpa using h8)]
    refine⟨.inr (0,false),rfl,rfl,?_⟩
    rintro rfl
    have:=kc (n:=1) (k:=1) (by decide)
    omega
   ·left
    rw[if_neg (by simpa using h8),aeT (by omega) gd (by omega),ag5]
    have hb:pw i*(bc g)[i]<9223372036854775809:=by
     rcases (show i=0∨i=1∨i=2∨i=3 by omega) with h|h|h|h
     ·have:pw i=1:=by rw[h];decide
      rw[this];omega
     ·have:pw i=1048576:=by rw[h];decide
      rw[this];omega
     ·have:pw i=1099511627776:=by rw[h];decide
      rw[this];omega
     ·have:pw i=1152921504606846976:=by rw[h];decide
      rw[this];omega
    rw[ady (by omega) ⟨hu0,hu1⟩ ⟨gd.1,hb⟩]
    exact⟨hlt,_,rfl,by rw[jL (by omega)];omega,by rw[iL hlt]⟩
  ·right
   have:i=(bc g).length:=by omega
   subst this
   exact⟨.inl (dv ((bc g).take (bc g).length)),by rw[if_neg (by simp)],by rw[ahw,bY]⟩
 obtain⟨r,h1,h2⟩:=key
 rw[h1,ag5]
 cases r with
 | inr x=>obtain⟨rfl,h⟩:=h2;exact⟨_,rfl,by simp[h]⟩
 | inl u =>
  simp only at h2
  subst h2
  have hs:(hX (g:Int)).ae=(g:Int).sign:=rfl
  have hs0:¬(g:Int).sign<0:=by have:=og (g:Int);omega
  simp only[hs]
  rw[if_neg (by simp),ag5,if_neg (by simp),if_pos (by simp)]
  by_cases hg:(g:Int)<9223372036854775808
  ·rw[if_pos (by simpa using hg)]
   refine⟨_,rfl,?_⟩
   simp only[if_true]
   rw[wrap64 (by omega) hg]
   congr 1
   by_cases h:g=1
   ·subst h;rfl
   ·have:¬((g:Int)=1):=by omega
    simp[h,this]
  ·rw[if_neg (by simpa using hg)]
   have:g≠1:=by omega
   exact⟨_,rfl,by simp[this]⟩
def mD (q:Rat):ao:=ao.mk (hX q.num) (hX q.den)
def LF (q:Rat):Nat:=max (Ln q.num) (Ln q.den)
theorem aaq {p q:Rat} (h:mD p=mD q):p=q:=by
 unfold mD at h
 simp only[ao.mk.injEq]at h
 have h1:=Tg h.1
 have h2:=Tg h.2
 exact Rat.ext h1 (by omega)
def okF (f:ao):Bool:=okB f.aZ&&okB f.aX&&(f.aX.ae==1)&&decide (Nat.gcd (dv f.aZ.aa).toNat (dv f.aX.aa).toNat=1)
theorem J1 {f:ao} : okF f=true↔∃q,f=mD q:=by
 obtain⟨p,q⟩:=f
 unfold okF
 simp only[af6,beq_iff_eq,decide_eq_true_eq]
 constructor
 ·rintro⟨⟨⟨h1,h2⟩,h3⟩,h4⟩
  obtain⟨x,rfl⟩:=xT.1 h1
  obtain⟨y,rfl⟩:=xT.1 h2
  have hy:0<y:=by
   have:y.sign=1:=h3
   rcases og y with⟨a,b,c⟩|⟨a,b,c⟩|⟨a,b⟩<;>omega
  have h5:(dv (hX x).aa).toNat=x.natAbs:=by show (dv (bc _)).toNat=_;rw[bY];rfl
  have h6:(dv (hX y).aa).toNat=y.natAbs:=by show (dv (bc _)).toNat=_;rw[bY];rfl
  rw[h5,h6]at h4
  refine⟨⟨x,y.natAbs,by omega,h4⟩,?_⟩
  unfold mD
  simp only
  congr 2
  omega
 ·rintro⟨q,hq⟩
  unfold mD at hq
  simp only[ao.mk.injEq]at hq
  obtain⟨rfl,rfl⟩:=hq
  have hd:=q.den_pos
  refine⟨⟨⟨QR _,QR _⟩,ahV (by omega)⟩,?_⟩
  have h5:(dv (hX q.num).aa).toNat=q.num.natAbs:=by show (dv (bc _)).toNat=_;rw[bY];rfl
  have h6:(dv (hX (q.den:Int)).aa).toNat=q.den:=by show (dv (bc _)).toNat=_;rw[bY];rfl
  rw[h5,h6]
  exact q.reduced
theorem Yg (q:Rat):okF (mD q)=true:=J1.2 ⟨q,rfl⟩
def abI (f:ao):Prop:=f.aZ.aa.length<=su∧f.aX.aa.length<=su
theorem Z0 {q:Rat} (h:LF q<=jt):abI (mD q):=by
 unfold LF at h
 exact⟨wV (show Ln q.num<=_ by omega),wV (show Ln q.den<=_ by omega)⟩
theorem KI {f:ao} (hf:abI f):cy f=some (okF f):=by
 have hL:su=17592186043904:=rfl
 obtain⟨p,q⟩:=f
 simp only[abI]at hf
 unfold cy okF
 rw[Ew (show Fit p.aa by unfold Fit;omega),ag5]
 by_cases h1:okB p=true
 ·simp only[h1,agY,af5,if_false,agZ]
  rw[Ew (show Fit q.aa by unfold Fit;omega),ag5]
  by_cases h2:okB q=true
  ·simp only[h2,agY,af5,if_false,agZ,Option.bind_some]
   by_cases h3:q.ae=1
   ·rw[if_neg (by simp[h3])]
    obtain⟨x,rfl⟩:=xT.1 h1
    obtain⟨y,rfl⟩:=xT.1 h2
    rw[V9 hf.1 hf.2,ag5]
    simp only[beq_self_eq_true,if_true]
    have h5:(dv (hX x).aa).toNat=x.natAbs:=by show (dv (bc _)).toNat=_;rw[bY];rfl
    have h6:(dv (hX y).aa).toNat=y.natAbs:=by show (dv (bc _)).toNat=_;rw[bY];rfl
    rw[aci,ag5,h5,h6]
    ·rw[h3];rfl
    ·have hy:0<y.natAbs:=by
      have:y.sign=1:=h3
      rcases og y with⟨a,b,c⟩|⟨a,b,c⟩|⟨a,b⟩<;>omega
     have:=eH (Nat.gcd_le_right x.natAbs hy)
     have h7:(bc y.natAbs).length<=su:=hf.2
     show (bc (Nat.gcd x.natAbs y.natAbs)).length<=_
     omega
   ·rw[if_pos (by simpa using h3)]
    simp[h3]
  ·simp only[h2,aht,if_true,Option.bind_some,ahs]
 ·simp only[h1,aht,if_true,Option.bind_some,ahs]
theorem sw {q:Rat} (h:LF q<=jt):cy (mD q)=some true:=by rw[KI (Z0 h),Yg]
theorem abO {p q:Int} (hp:Ln p<=jt) (hq:Ln q<=jt) (h0:q≠0):kG (hX p) (hX q)=some (mD (Rat.divInt p q),0):=by
 have hL:jt=4398046511104:=rfl
 have main:∀ {p q:Int},Ln p<=jt->Ln q<=jt->0<q ->
   ((mG (hX p) (hX q)).bind fun r6=>(lD (hX p) r6.1).bind fun r7=>(lD (hX q) r6.1).bind fun r8=>some ((ao.mk r7.1 r8.1),(0:Int)))=some (mD (Rat.divInt p q),0):=by
  intro p q hp hq h0
  have hg:0<Int.gcd p q:=Int.gcd_pos_of_ne_zero_right _ (by omega)
  have hgl:Ln (Int.gcd p q:Int)<=jt:=by
   have:=eH (Nat.gcd_le_right p.natAbs (show 0<q.natAbs by omega))
   show (bc (Nat.gcd p.natAbs q.natAbs)).length<=_
   have h7:(bc q.natAbs).length<=jt:=hq
   omega
  rw[V9 (wV hp) (wV hq),ag5]
  simp only
  rw[V7 hp hgl (by omega) (Int.gcd_dvd_left ..),ag5,V7 hq hgl (by omega) (Int.gcd_dvd_right ..),ag5]
  have hd:((q.natAbs / Int.gcd p q:Nat):Int)=q / (Int.gcd p q:Int):=by
   rw[Int.natCast_ediv]
   congr 1
   omega
  unfold mD
  rw[Rat.num_divInt,Rat.den_divInt,if_neg (by omega),ahV h0,ahR,Int.gcd_comm q p,hd]
 unfold kG
 rw[gX (by omega),ag5]
 simp only[agY,af5,if_false]
 rw[gX (by omega),ag5,ag5]
 simp only[agY,af5,if_false]
 have hqs:(hX q).ae=q.sign:=rfl
 rw[hqs]
 rcases og q with⟨a,b,c⟩|⟨a,b,c⟩|⟨a,b⟩
 ·rw[if_neg (by rw[a];decide),if_neg (by rw[a];decide),ag5]
  exact main hp hq c
 ·rw[if_neg (by rw[a];decide),if_pos (by rw[a];decide),PB hp,ag5,PB hq,ag5,ag5]
  have:=main (p := -p) (q := -q) (by rw[PA];exact hp) (by rw[PA];exact hq) (by omega)
  rw[Rat.neg_divInt_neg]at this
  exact this
 ·exact absurd b h0
theorem BK (q:Rat):Ln q.num<=LF q:=by unfold LF;omega
theorem I7 (q:Rat):Ln q.den<=LF q:=by unfold LF;omega
theorem Uu {p q:Int} (h0:q≠0):LF (Rat.divInt p q)<=max (Ln p) (Ln q):=by
 have hg:0<Int.gcd q p:=Int.gcd_pos_of_ne_zero_left _ h0
 have h1:Ln (Rat.divInt p q).num<=Ln p:=by
  apply RR
  rw[Rat.num_divInt]
  obtain⟨z,hz⟩:(Int.gcd q p:Int)∣q.sign*p:=Int.dvd_mul_of_dvd_right (Int.gcd_dvd_right ..)
  rw[hz,Int.mul_ediv_cancel_left _ (by omega)]
  have h2:(q.sign*p).natAbs=p.natAbs:=by
   rw[ahT]
   have:q.sign.natAbs=1:=by
    rcases og q with⟨a,b,c⟩|⟨a,b,c⟩|⟨a,b⟩
    ·rw[a];rfl
    ·rw[a];rfl
    ·exact absurd b h0
   rw[this,Nat.one_mul]
  rw[<- h2,hz,ahT]
  exact Nat.le_mul_of_pos_left _ (by omega)
 have h2:Ln ((Rat.divInt p q).den:Int)<=Ln q:=by
  apply RR
  rw[Rat.den_divInt,if_neg h0]
  exact Nat.div_le_self _ _
 unfold LF
 omega
theorem acZ {a b:Rat} (h:LF a+LF b+1<=jt):l9 (mD a) (mD b)=some (mD (a+b),0):=by
 have n1:=BK a
 have n2:=BK b
 have d1:=I7 a
 have d2:=I7 b
 have m1:=wh a.num b.den
 have m2:=wh b.num a.den
 have m3:=wh a.den b.den
 have m4:=Pz (a.num*b.den) (b.num*a.den)
 unfold l9
 rw[sw (by omega),ag5]
 simp only[agY,af5,if_false]
 rw[sw (by omega),ag5,ag5]
 simp only[agY,af5,if_false]
 show (dt (hX a.num) (hX b.den)).bind _=_
 rw[EL (by omega) (by omega),ag5]
 show (dt (hX b.num) (hX a.den)).bind _=_
 rw[EL (by omega) (by omega),ag5,abH (by omega) (by omega),ag5]
 show (dt (hX a.den) (hX b.den)).bind _=_
 have hden:(a.den:Int)*b.den≠0:=by
  rw[<- agu]
  have:=Nat.mul_pos a.den_pos b.den_pos
  omega
 rw[EL (by omega) (by omega),ag5,abO (by omega) (by omega) hden,ag5]
 rw[Rat.add_def',<- Rat.divInt_ofNat,agu]
theorem abK (a b:Rat):LF (a+b)<=LF a+LF b+1:=by
 have n1:=BK a
 have n2:=BK b
 have d1:=I7 a
 have d2:=I7 b
 have m1:=wh a.num b.den
 have m2:=wh b.num a.den
 have m3:=wh a.den b.den
 have m4:=Pz (a.num*b.den) (b.num*a.den)
 have hden:(a.den:Int)*b.den≠0:=by
  rw[<- agu]
  have:=Nat.mul_pos a.den_pos b.den_pos
  omega
 rw[Rat.add_def',<- Rat.divInt_ofNat,agu]
 have:=Uu (p:=a.num*b.den+b.num*a.den) hden
 omega
theorem Wb (a:Rat):LF (-a)=LF a:=by unfold LF;rw[Rat.neg_num,Rat.neg_den,PA]
theorem abM (a b:Rat):LF (a-b)<=LF a+LF b+1:=by
 rw[Rat.sub_eq_add_neg]
 have:=abK a (-b)
 rw[Wb]at this
 exact this
theorem ac5 {a b:Rat} (h:LF a+LF b+1<=jt):nR (mD a) (mD b)=some (mD (a-b),0):=by
 unfold nR
 rw[sw (by omega),ag5]
 simp only[agY,af5,if_false]
 rw[sw (by omega),ag5,ag5]
 simp only[agY,af5,if_false]
 show (lE (hX b.num)).bind _=_
 have n2:=BK b
 rw[PB (by omega),ag5]
 have e:ao.mk (hX (-b.num)) (mD b).aX=mD (-b):=by unfold mD;rw[Rat.neg_num,Rat.neg_den]
 rw[e,acZ (by rw[Wb];exact h),ag5,Rat.sub_eq_add_neg]
theorem ac1 {n:Int} (h : -9223372036854775808<=n∧n<9223372036854775808):jw n=some (mD n):=by
 unfold jw
 rw[aaV h,ag5,aaV (by decide),ag5]
 unfold mD
 rw[Rat.num_intCast,Rat.den_intCast]
 rfl
theorem abL {n:Int} (h:n.natAbs<1048576):LF (n:Rat)<=1:=by
 unfold LF
 rw[Rat.num_intCast,Rat.den_intCast]
 have h1:=KF h
 have h2:=KF (x:=((1:Nat):Int)) (by decide)
 omega
theorem Ja {a:Rat} (h:LF a<=jt):eT (mD a)=some a.num.sign:=by
 unfold eT
 rw[sw h,ag5]
 rfl
instance:DecidableEq aj:=fun a b=>decidable_of_iff (a.ae=b.ae∧a.aa=b.aa) (by cases a;cases b;simp)
instance:DecidableEq ao:=fun a b=>decidable_of_iff (a.aZ=b.aZ∧a.aX=b.aX) (by cases a;cases b;simp)
theorem aeL (f:ao) (n:Int):rE f n=some (decide ((f.aZ.aa.length:Int)<=n∧(f.aX.aa.length:Int)<=n)):=by
 unfold rE
 by_cases h:(f.aZ.aa.length:Int)<=n
 ·rw[if_pos (by simpa using h)];simp[h]
 ·rw[if_neg (by simpa using h)];simp[h]
theorem XK {σ ρ:Type} {body:σ->Option (σ⊕ρ)} {n:Nat} {s s':σ} (h:body s=some (.inl s')):mC body (n+1) s=mC body n s':=by simp only[mC,h]
theorem MW {σ ρ:Type} {body:σ->Option (σ⊕ρ)} {n:Nat} {s:σ} {r:ρ} (h:body s=some (.inr r)):mC body (n+1) s=some r:=by simp only[mC,h]
theorem fH {i:Nat} (h:i<4611686018427387904):IntKind.i64.wrap ((i:Int)+1)=((i+1:Nat):Int):=by rw[wrap64 (by omega) (by omega)];omega
theorem eB {α:Type} {l:List α} {i:Nat} {x:α} (h:l[i]? = some x):P.idx l (i:Int)=some x:=MQ (by omega) (by simpa using h)
theorem gw {α:Type} {l:List α} {i:Nat} {x:α} (h:l[i]? = some x):i<l.length:=(afY.1 h).1
theorem drop_cons {α:Type} {l rest:List α} {i:Nat} {x:α} (h:l.drop i=x::rest):i<l.length∧l[i]? = some x∧l.drop (i+1)=rest:=by
 have hi:i<l.length:=by
  rcases agh i l.length with h1|h1
  ·exact h1
  ·rw[ahh h1]at h;cases h
 rw[ahq hi]at h
 simp only[afT]at h
 exact⟨hi,by rw[afI hi,h.1],h.2⟩
def jQ {α ρ:Type} (st:Nat->α->Option ρ):Nat->List α->Option ρ
 | _,[]=>none
 | i,x::l=>match st i x with|some r=>some r|none=>jQ st (i+1) l
theorem l8 {α ρ:Type} {st:Nat->α->Option ρ} : ∀ {l:List α} {i:Nat},jQ st i l=none↔∀(j:Nat) x,l[j]? = some x->st (i+j) x=none
 | [],i=>by simp[jQ]
 | x::l,i=>by
  simp only[jQ]
  constructor
  ·intro h j y hj
   cases hs:st i x with
   | some r=>rw[hs]at h;cases h
   | none =>
    rw[hs]at h
    cases j with
    | zero=>simp only[List.getElem?_cons_zero,afE]at hj;subst hj;exact hs
    | succ j =>
     have:=l8.1 h j y (by simpa using hj)
     rw[<- this];congr 1;omega
  ·intro h
   have h0:=h 0 x rfl
   simp only[Nat.add_zero]at h0
   rw[h0]
   refine l8.2 fun j y hj =>?_
   have:=h (j+1) y (by simpa using hj)
   rw[<- this];congr 1;omega
theorem oH {α ρ:Type} {st:Nat->α->Option ρ} {r:ρ} : ∀ {l:List α} {i:Nat},jQ st i l=some r->∃(j:Nat) (x:α),l[j]? = some x∧st (i+j) x=some r∧∀(k:Nat) y,k<j->l[k]? = some y->st (i+k) y=none
 | [],i,h=>by cases h
 | x::l,i,h=>by
  simp only[jQ]at h
  cases hs:st i x with
  | some r' =>
   rw[hs]at h
   exact⟨0,x,rfl,by rw[af4,hs];exact h,fun k y hk=>by omega⟩
  | none =>
   rw[hs]at h
   obtain⟨j,y,h1,h2,h3⟩:=oH h
   refine⟨j+1,y,by simpa using h1,by rw[<- h2];congr 1;omega,fun k z hk hz =>?_⟩
   cases k with
   | zero=>simp only[List.getElem?_cons_zero,afE]at hz;subst hz;exact hs
   | succ k =>
    have:=h3 k z (by omega) (by simpa using hz)
    rw[<- this];congr 1;omega
theorem TD {α ρ:Type} (l:List α) {body:Int->Option (Int⊕(Unit⊕ρ))} (st:Nat->α->Option ρ) (hlen:l.length<4611686018427387904)
  (hb:∀(i:Nat) x,l[i]? = some x->body (i:Int)=some (match st i x with|none =>.inl ((i+1:Nat):Int)|some r =>.inr (.inr r))) (he:body (l.length:Int)=some (.inr (.inl ()))) :
  bf body 0=some (match jQ st 0 l with|none =>.inl ()|some r =>.inr r):=by
 have key:∀(rest:List α) (i fuel:Nat),i<=l.length->l.drop i=rest->rest.length<fuel->mC body fuel (i:Int)=some (match jQ st i rest with|none =>.inl ()|some r =>.inr r):=by
  intro rest
  induction rest with
  | nil =>
   intro i fuel hi hd hf
   obtain⟨f,rfl⟩:∃f,fuel=f+1:=⟨fuel-1,by simp at hf;omega⟩
   have hle:l.length<=i:=by
    have:=congrArg List.length hd
    simp at this
    omega
   have:i=l.length:=by omega
   subst this
   rw[MW he]
   rfl
  | cons x rest ih =>
   intro i fuel hi hd hf
   obtain⟨f,rfl⟩:∃f,fuel=f+1:=⟨fuel-1,by simp at hf;omega⟩
   obtain⟨h1,h2,h3⟩:=drop_cons hd
   have:=hb i x h2
   cases hs:st i x with
   | some r =>
    rw[hs]at this
    rw[MW this]
    simp only[jQ,hs]
   | none =>
    rw[hs]at this
    rw[XK this,ih (i+1) f h1 h3 (by simp at hf;omega)]
    simp only[jQ,hs]
 exact key l 0 FU (afw _) rfl (by have:FU=1000000000000000000000000:=rfl;omega)
theorem UR {α σ ρ:Type} {body:Int×σ->Option ((Int×σ)⊕ρ)} (l:List α) (hl:l.length<=17592186044416) (inv:Nat->σ->Prop) (Q:ρ->Prop) {s0:σ} (h0:inv 0 s0)
  (hstep:∀(i:Nat) x s,l[i]? = some x->inv i s->∃s',body ((i:Int),s)=some (.inl (((i+1:Nat):Int),s'))∧inv (i+1) s')
  (hend:∀s,inv l.length s->∃r,body ((l.length:Int),s)=some (.inr r)∧Q r):∃r,bf body ((0:Int),s0)=some r∧Q r:=by
 refine fe (fun i s=>s.1=(i:Int)∧inv i s.2) l.length Q ⟨rfl,h0⟩ (oT hl) ?_
 rintro i ⟨k,s⟩ hi ⟨rfl,hI⟩
 rcases agh i l.length with h|h
 ·obtain⟨s',h1,h2⟩:=hstep i _ s (afI h) hI
  exact .inl ⟨h,_,h1,rfl,h2⟩
 ·have:i=l.length:=by omega
  subst this
  exact .inr (hend s hI)
theorem dj {α:Type} {N j:Nat} (f:Nat->α) (h:j<N):((List.range N).map f)[j]? = some (f j):=by simp[h]
theorem lr {α:Type} {l:List α} {N:Nat} {f:Nat->α} (hl:l.length=N) (h:∀j,j<N->l[j]? = some (f j)):l=(List.range N).map f:=by
 apply ahz
 intro j
 by_cases hj:j<N
 ·rw[h j hj,dj f hj]
 ·rw[ag7 (by omega),ag7 (by simp;omega)]
theorem nn {α:Type} {N i:Nat} (f:Nat->α) (v:α):((List.range N).map f).set i v=(List.range N).map fun j=>if j=i then v else f j:=by
 refine lr (by simp) fun j hj =>?_
 rw[List.getElem?_set]
 by_cases h:i=j
 ·subst h
  rw[if_pos rfl,if_pos (by simpa using hj)]
  simp
 ·rw[if_neg h,dj f hj,if_neg (fun e=>h e.symm)]
theorem Du {α β:Type} {mk:β->α} {R:β->Prop} : ∀ {l:List α},(∀x∈l,∃y,x=mk y∧R y)->∃ys:List β,l=ys.map mk∧∀y∈ys,R y
 | [],_=>⟨[],rfl,fun _ h=>by cases h⟩
 | x::l,h=>by
  obtain⟨y,h1,h2⟩:=h x (ag2 ..)
  obtain⟨ys,h3,h4⟩:=Du (l:=l) fun z hz=>h z (ag3 _ hz)
  refine⟨y::ys,by rw[afB,<- h1,<- h3],fun z hz =>?_⟩
  rcases afC.1 hz with rfl|hz
  ·exact h2
  ·exact h4 z hz
theorem J8 {α:Type} {R:α->α->Prop} (ht:∀a b c,R a b->R b c->R a c) {l:List α} (h:∀(i:Nat) a b,l[i]? = some a->l[i+1]? = some b->R a b):l.Pairwise R:=by
 rw[ahA]
 intro i j hi hj hij
 obtain⟨d,rfl⟩:∃d,j=i+1+d:=⟨j-(i+1),by omega⟩
 clear hij
 induction d with
 | zero=>exact h i _ _ (afI hi) (afI hj)
 | succ d ih=>exact ht _ _ _ (ih (by omega)) (h (i+1+d) _ _ (afI (by omega)) (afI hj))
abbrev Tk:=Nat×Nat×Rat
def xI (t:Tk):bI:=bI.mk (t.1:Int) (t.2.1:Int) (mD t.2.2)
def p9 (N:Nat) (tk:List Tk):cz:=cz.mk (N:Int) (tk.map xI)
theorem aat {a b:Tk} (h:xI a=xI b):a=b:=by
 unfold xI at h
 injection h with h1 h2 h3
 exact Prod.ext (by omega) (Prod.ext (by omega) (aaq h3))
theorem aar {N M:Nat} {a b:List Tk} (h:p9 N a=p9 M b):N=M∧a=b:=by
 unfold p9 at h
 injection h with h1 h2
 refine⟨by omega,?_⟩
 exact List.map_inj_right (f:=xI) (fun x y h=>aat h) |>.1 h2
def Ea:List Tk->Nat->Rat
 | [],_=>0
 | t::l,p=>(if t.1=p then t.2.2 else 0)+Ea l p
theorem Ow (a b:List Tk) (p:Nat):Ea (a++b) p=Ea a p+Ea b p:=by
 induction a with
 | nil=>rw[ahe,Ea,Rat.zero_add]
 | cons t a ih=>rw[ahn,Ea,Ea,ih];grind
def dW (tk:List Tk) (p:Nat):Rat:=1-Ea tk p
theorem Dp {tk:List Tk} {i:Nat} {t:Tk} (h:tk[i]? = some t) (p:Nat):dW (tk.take (i+1)) p=dW (tk.take i) p-(if t.1=p then t.2.2 else 0):=by
 obtain⟨hi,he⟩:=afY.1 h
 unfold dW
 rw[ah0 hi,Ow,he]
 simp only[Ea]
 grind
theorem I9 {tk:List Tk} {K:Nat} (hs:∀t∈tk,LF t.2.2<=K) (p:Nat):∀i,i<=tk.length->LF (dW (tk.take i) p)<=1+i*(K+1)
 | 0,_=>by
  have:dW (tk.take 0) p=((1:Int):Rat):=by unfold dW;rw[ahr,Ea];grind
  rw[this]
  exact afx (abL (n:=1) (by decide)) (by omega)
 | i+1,h=>by
  have ih:=I9 hs p i (by omega)
  have hg:tk[i]? = some tk[i]:=afI (by omega)
  rw[Dp hg]
  have hk:=hs _ (afH (show i<tk.length by omega))
  rw[ags]
  split
  ·have:=abM (dW (tk.take i) p) tk[i].2.2
   omega
  ·rw[show ∀x:Rat,x-0=x by intro x;grind]
   omega
theorem BJ {tk:List Tk} {K:Nat} (hs:∀t∈tk,LF t.2.2<=K) (p:Nat):LF (dW tk p)<=1+tk.length*(K+1):=by
 have:=I9 hs p tk.length (afv _)
 rwa [ahw]at this
theorem Th {α:Type} {N B:Nat} (z:α) (h:N*B<=140737488355328) (h2:N<=2000):Fz B (N:Int) (N:Int) z=some (List.replicate N z):=by
 unfold Fz
 have:(2000:Nat)<=maxLen:=by decide
 rw[if_pos ⟨by omega,by omega,by omega,by simpa using h⟩]
 simp
theorem aeM:jw 1=some (mD 1):=ac1 (n:=1) (by decide)
theorem Dq {N K:Nat} {tk:List Tk} (hN:N<=2000) (hlen:tk.length<=8000) (hf:∀t∈tk,t.1<N) (hK:K<=1000000) (hs:∀t∈tk,LF t.2.2<=K) :
  iU (p9 N tk)=some ((List.range N).map fun p=>mD (dW tk p)):=by
 unfold iU p9
 simp only
 rw[Th _ (by omega) hN,ag5]
 have h1:∃r,bf (kO (List.replicate N (ao.mk (aj.mk 0 []) (aj.mk 0 [])))) ((0:Int),List.replicate N (ao.mk (aj.mk 0 []) (aj.mk 0 [])))=some r∧r=(List.range N).map fun p=>mD (dW (tk.take 0) p):=by
  refine UR (List.replicate N (ao.mk (aj.mk 0 []) (aj.mk 0 []))) (by simp;omega) (fun i l=>l.length=N∧∀j,j<i->l[j]? = some (mD 1)) _ ⟨by simp,fun j hj=>by omega⟩ ?_ ?_
  ·rintro i x l hx ⟨hl,hI⟩
   have hi:i<N:=by have:=gw hx;simpa using this
   have hg:l[i]? = some l[i]:=afI (by omega)
   refine⟨l.set i (mD 1),?_,by simpa using hl,fun j hj =>?_⟩
   ·simp only[kO]
    rw[if_pos (by simp;omega),aeM,ag5,eB hg,ag5,fH (by omega),agv]
   ·rw[List.getElem?_set]
    by_cases h:i=j
    ·rw[if_pos h,if_pos (by omega)]
    ·rw[if_neg h];exact hI j (by omega)
  ·rintro l ⟨hl,hI⟩
   refine⟨l,?_,?_⟩
   ·simp only[kO];rw[if_neg (by simp)]
   ·rw[List.length_replicate]at hI
    refine lr hl fun j hj =>?_
    rw[hI j hj,ahr]
    congr 2
    unfold dW Ea;grind
 obtain⟨r,h1,rfl⟩:=h1
 rw[h1,ag5]
 have h2:∃r,bf (kP (cz.mk (N:Int) (tk.map xI))) ((0:Int),(List.range N).map fun p=>mD (dW (tk.take 0) p))=some r∧r=(List.range N).map fun p=>mD (dW tk p):=by
  refine UR tk (by omega) (fun i l=>l=(List.range N).map fun p=>mD (dW (tk.take i) p)) _ rfl ?_ ?_
  ·rintro i t _ ht rfl
   have hi:=gw ht
   have hm:=afX ht
   have hfr:=hf t hm
   have hg:(tk.map xI)[i]? = some (xI t):=by rw[afs,ht];rfl
   refine⟨_,?_,rfl⟩
   simp only[kP]
   have hLF:=I9 hs t.1 i (by omega)
   have hkt:=hs t hm
   have hmul:i*(K+1)<=8000*1000001:=Nat.mul_le_mul (by omega) (by omega)
   rw[if_pos (by simp;omega),eB hg,ag5]
   simp only[xI]
   rw[eB (dj _ hfr),ag5,ac5 (by unfold jt;omega),ag5,fH (by omega),agv,nn]
   congr 3
   refine congrArg (fun f=>(List.range N).map f) (funext fun p =>?_)
   rw[Dp ht]
   by_cases h:p=t.1
   ·subst h;rw[if_pos rfl,if_pos rfl]
   ·rw[if_neg h,if_neg (fun e=>h e.symm)]
    congr 1;grind
  ·rintro _ rfl
   refine⟨_,?_,rfl⟩
   simp only[kP]
   rw[if_neg (by simp),ahw]
 obtain⟨r,h2,rfl⟩:=h2
 rw[h2,ag5]
def ltT (a b:Tk):Prop:=a.1<b.1∨(a.1=b.1∧a.2.1<b.2.1)
theorem Va (a b c:Tk) (h:ltT a b) (k:ltT b c):ltT a c:=by unfold ltT at *;omega
structure yO (N:Nat) (tk:List Tk):Prop where
 ports:N<=2000
 takes:tk.length<=8000
 ok:∀t∈tk,t.1<N∧t.2.1<N∧0<t.2.2
 sorted:tk.Pairwise ltT
 leak:∀p,p<N->0<=dW tk p
theorem vf (a b c:Int):cZ a b c=some (decide (b<=a∧a<=c)):=by
 unfold cZ
 by_cases h1:a>=b<;>by_cases h2:a<=c<;>simp[h1,h2]
theorem UA (a b:bI):∃c,jV a b=some c∧(c<0↔(a.bT<b.bT∨(a.bT=b.bT∧a.gD<b.gD))):=by
 unfold jV
 rw[Jh,ag5,Jh,ag5,aaW,ag5]
 refine⟨_,rfl,?_⟩
 unfold sg
 split<;>split<;>(try split)<;>(try split)<;>simp at *<;>omega
theorem BA {q:Rat} : q.num.sign<0↔q<0:=by
 rw[Int.sign_neg_iff,<- Rat.not_le,<- Rat.num_nonneg]
 omega
theorem OU {q:Rat} : q.num.sign=0↔q=0:=by
 rw[Int.sign_eq_zero_iff_zero,Rat.num_eq_zero]
theorem u9 {q:Rat} : 0<q.num.sign↔0<q:=by
 constructor
 ·intro h
  have h1:¬q<0:=fun h'=>by have:=BA.2 h';omega
  have h2:q≠0:=fun h'=>by have:=OU.2 h';omega
  grind
 ·intro h
  have h1:¬q.num.sign<0:=fun h'=>by have:=BA.1 h';grind
  have h2:q.num.sign≠0:=fun h'=>by have:=OU.1 h';grind
  omega
theorem I8 {q:Rat} {k:Nat} (h1:(mD q).aZ.aa.length<=k) (h2:(mD q).aX.aa.length<=k):LF q<=k:=by
 unfold LF Ln
 exact Nat.max_le.2 ⟨h1,h2⟩
theorem Sy {q:Rat} {k:Nat} (h:LF q<=k):(mD q).aZ.aa.length<=k∧(mD q).aX.aa.length<=k:=by
 unfold LF Ln at h
 exact Nat.max_le.1 h
theorem Ck {l:List Rat} (hl:l.length<=17592186044416) (hs:∀q∈l,LF q<=jt):bC (l.map mD)=some (decide (∃q∈l,q<0)):=by
 unfold bC b4
 rw[TD l (fun i q=>if q<0 then some (i:Int) else none) (by omega) (fun i q hq =>?_) (by simp only[cX];rw[if_neg (by simp)])]
 ·rw[ag5]
  cases hf:jQ (fun i (q:Rat)=>if q<0 then some (i:Int) else none) 0 l with
  | none =>
   simp only
   rw[ag5,decide_eq_false (by decide),decide_eq_false]
   rintro⟨q,hq,hn⟩
   obtain⟨j,hj⟩:=afR hq
   have:=l8.1 hf j q hj
   rw[if_pos hn]at this
   cases this
  | some r =>
   obtain⟨j,q,h1,h2,_⟩:=oH hf
   by_cases hn:q<0
   ·rw[if_pos hn]at h2
    cases h2
    simp only
    rw[ag5,decide_eq_true (by omega),decide_eq_true ⟨q,afX h1,hn⟩]
   ·rw[if_neg hn]at h2;cases h2
 ·have hi:=gw hq
  simp only[cX,ke]
  rw[if_pos (by simp;omega),eB (x:=mD q) (by rw[afs,hq];rfl),ag5,Ja (hs q (afX hq)),ag5,ag5]
  by_cases hn:q<0
  ·rw[decide_eq_true (BA.2 hn),if_pos hn];rfl
  ·rw[decide_eq_false (fun h=>hn (BA.1 h)),if_neg hn,fH (by omega)];rfl
def VC (N:Nat) (x:bI):Bool:=decide (0<=x.bT∧x.bT<=(N:Int)-1)&&decide (0<=x.gD∧x.gD<=(N:Int)-1)&&okF x.bR&&decide (0<x.bR.aZ.ae)
def Uz (a b:bI):Prop:=a.bT<b.bT∨(a.bT=b.bT∧a.gD<b.gD)
instance (a b:bI):Decidable (Uz a b):=by unfold Uz;infer_instance
def Db (N:Nat) (l:List bI) (i:Nat) (x:bI):Bool:=VC N x&&(decide (i=0)||(match l[i-1]? with|some y=>decide (Uz y x)|none=>false))
theorem Oe {N:Nat} {x:bI} : VC N x=true↔∃t:Tk,x=xI t∧t.1<N∧t.2.1<N∧0<t.2.2:=by
 unfold VC
 simp only[af6,decide_eq_true_eq]
 constructor
 ·rintro⟨⟨⟨h1,h2⟩,h3⟩,h4⟩
  obtain⟨q,hq⟩:=J1.1 h3
  refine⟨(x.bT.toNat,x.gD.toNat,q),?_,by simp only;omega,by simp only;omega,?_⟩
  ·unfold xI
   cases x
   simp only at *
   rw[<- hq,Int.toNat_of_nonneg h1.1,Int.toNat_of_nonneg h2.1]
  ·rw[hq]at h4
   exact u9.1 h4
 ·rintro⟨t,rfl,h1,h2,h3⟩
  exact⟨⟨⟨by simp only[xI];omega,by simp only[xI];omega⟩,Yg _⟩,u9.2 h3⟩
theorem Se {a b:Tk} : Uz (xI a) (xI b)↔ltT a b:=by
 unfold Uz ltT xI
 simp only
 omega
theorem zf {n:cz} {K:Nat} (hK:K<=1000000) (hs:∀t∈n.aw,t.bR.aZ.aa.length<=K∧t.bR.aX.aa.length<=K) :
  ∃b,gz n=some b∧(b=true↔∃N tk,n=p9 N tk∧yO N tk):=by
 unfold gz
 rw[vf,ag5]
 by_cases hN:0<=n.aC∧n.aC<=2000
 rotate_left
 ·rw[decide_eq_false hN]
  refine⟨false,by simp,?_⟩
  simp only[af5,false_iff]
  rintro⟨N,tk,rfl,h⟩
  have:=h.ports
  simp only[p9]at hN
  omega
 rw[decide_eq_true hN]
 simp only[agY,af5,if_false,Option.bind_some]
 by_cases hL:(n.aw.length:Int)>8000
 ·rw[decide_eq_true hL]
  refine⟨false,by simp,?_⟩
  simp only[af5,false_iff]
  rintro⟨N,tk,rfl,h⟩
  have:=h.takes
  simp only[p9,afZ]at hL
  omega
 rw[decide_eq_false hL]
 simp only[af5,if_false]
 obtain⟨N,hNe⟩:∃N:Nat,n.aC=(N:Int):=⟨n.aC.toNat,by omega⟩
 have hwr:IntKind.i64.wrap (n.aC-1)=(N:Int)-1:=by rw[hNe,wrap64 (by omega) (by omega)]
 have hK2:K<=su:=afx hK (by unfold su;omega)
 have hscan:=TD n.aw (body:=kN n) (fun i x=>if Db N n.aw i x=true then none else some false) (by omega) (fun i x hx=>by
  have hi:=gw hx
  obtain⟨hs1,hs2⟩:=hs x (afX hx)
  simp only[kN]
  rw[if_pos (by simp;omega),eB hx,ag5,vf,ag5,hwr]
  have hcond:(if (!decide (0<=x.bT∧x.bT<=(N:Int)-1))=true then some true
   else (cZ x.gD 0 ((N:Int)-1)).bind fun r30 =>
    if (!r30)=true then some true
    else (cy x.bR).bind fun r32=>if (!r32)=true then some true else (eT x.bR).bind fun r34=>some (decide (r34<=0)))=some (!VC N x):=by
   unfold VC
   by_cases c1:0<=x.bT∧x.bT<=(N:Int)-1
   rotate_left
   ·rw[decide_eq_false c1];simp
   rw[decide_eq_true c1,vf,ag5]
   by_cases c2:0<=x.gD∧x.gD<=(N:Int)-1
   rotate_left
   ·rw[decide_eq_false c2];simp
   rw[decide_eq_true c2,KI ⟨by omega,by omega⟩,ag5]
   cases hq:okF x.bR with
   | false=>simp
   | true =>
    obtain⟨q,hq⟩:=J1.1 hq
    rw[hq]at hs1 hs2 ⊢
    have hLF:=I8 hs1 hs2
    rw[Ja (by unfold jt;omega),ag5]
    have:(mD q).aZ.ae=q.num.sign:=rfl
    rw[this]
    by_cases c3:q.num.sign<=0
    ·rw[decide_eq_true c3,decide_eq_false (show ¬0<q.num.sign by omega)];simp
    ·rw[decide_eq_false c3,decide_eq_true (show 0<q.num.sign by omega)];simp
  rw[hcond,ag5]
  unfold Db
  cases hok:VC N x with
  | false=>simp
  | true =>
   simp only[agY,af5,if_false,agZ]
   cases i with
   | zero=>rw[if_neg (by simp),fH (by omega)];simp
   | succ i =>
    rw[if_pos (by simp)]
    have hg:n.aw[i]? = some n.aw[i]:=afI (by omega)
    have e1:IntKind.i64.wrap (((i+1:Nat):Int)-1)=(i:Int):=by rw[wrap64 (by omega) (by omega)];omega
    obtain⟨c,hc1,hc2⟩:=UA n.aw[i] x
    rw[e1,eB hg,ag5,hc1,ag5,ahi,hg]
    simp only[Nat.add_eq_zero_iff,ahu,and_false,decide_false,agy]
    by_cases hb:Uz n.aw[i] x
    ·rw[if_neg (by simp;exact hc2.2 hb),decide_eq_true hb,fH (by omega)];rfl
    ·rw[if_pos (by simp only[decide_eq_true_eq];have:¬c<0:=fun h=>hb (hc2.1 h);omega),decide_eq_false hb];rfl) (by
  unfold kN
  rw[if_neg (by simp)])
 rw[hscan,ag5]
 cases hfs:jQ (fun i x=>if Db N n.aw i x=true then none else some false) 0 n.aw with
 | some r =>
  obtain⟨j,x,h1,h2,_⟩:=oH hfs
  simp only[agj]at h2
  split at h2
  ·cases h2
  rename_i hbad
  cases h2
  refine⟨false,rfl,?_⟩
  simp only[af5,false_iff]
  rintro⟨M,tk,rfl,hR⟩
  apply hbad
  simp only[p9]at h1 hNe ⊢
  obtain rfl:M=N:=by omega
  rw[afs,aft]at h1
  obtain⟨t,ht,rfl⟩:=h1
  have hm:=afX ht
  unfold Db
  rw[Oe.2 ⟨t,rfl,hR.ok t hm⟩,agZ]
  cases j with
  | zero=>simp
  | succ j =>
   have hjl:=gw ht
   have hg:tk[j]? = some tk[j]:=afI (by omega)
   rw[ahi,afs,hg]
   simp only[Option.map_some]
   rw[decide_eq_true (Se.2 ?_),Bool.or_true]
   have:=ahA.1 hR.sorted j (j+1) (by omega) hjl (by omega)
   rwa [(afY.1 ht).2]at this
 | none =>
  have hall:=l8.1 hfs
  simp only[agj]at hall
  have hgood:∀(j:Nat) x,n.aw[j]? = some x->Db N n.aw j x=true:=fun j x hj=>by
   have:=hall j x hj
   split at this
   ·assumption
   ·cases this
  obtain⟨tk,htk,htk2⟩:=Du (mk:=xI) (R:=fun t=>t.1<N∧t.2.1<N∧0<t.2.2) (l:=n.aw) fun x hx=>by
   obtain⟨j,hj⟩:=afR hx
   have:=hgood j x hj
   unfold Db at this
   rw[af6]at this
   exact Oe.1 this.1
  have hn:n=p9 N tk:=by
   unfold p9
   rw[<- hNe,<- htk]
  have hsort:tk.Pairwise ltT:=J8 Va fun i a b ha hb=>by
   have:=hgood (i+1) (xI b) (by rw[htk,afs,hb];rfl)
   unfold Db at this
   rw[af6,ahi,htk,afs,ha]at this
   simpa [Se] using this.2
  have hLF:∀t∈tk,LF t.2.2<=K:=fun t ht=>by
   have:=hs (xI t) (by rw[htk];exact List.mem_map_of_mem ht)
   exact I8 this.1 this.2
  have hlen:tk.length<=8000:=by
   have:=congrArg List.length htk
   rw[afZ]at this
   omega
  have hN2:N<=2000:=by omega
  simp only
  rw[hn,Dq hN2 hlen (fun t ht=>(htk2 t ht).1) hK hLF,ag5]
  have hmap:((List.range N).map fun p=>mD (dW tk p))=((List.range N).map fun p=>dW tk p).map mD:=by rw[List.map_map];rfl
  rw[hmap,Ck (by simp;omega) (fun q hq=>by
   obtain⟨p,_,rfl⟩:=afu.1 hq
   have:=BJ hLF p
   have h2:tk.length*(K+1)<=8000*1000001:=Nat.mul_le_mul hlen (by omega)
   unfold jt;omega),ag5]
  refine⟨_,rfl,?_⟩
  simp only[af7,decide_eq_false_iff_not]
  constructor
  ·intro hno
   refine⟨N,tk,rfl,⟨hN2,hlen,htk2,hsort,fun p hp =>?_⟩⟩
   by_cases h0:dW tk p<0
   ·exact absurd ⟨_,afu.2 ⟨p,ahb.2 hp,rfl⟩,h0⟩ hno
   ·grind
  ·rintro⟨M,tk',he,hR⟩ ⟨q,hq,hneg⟩
   obtain⟨rfl,rfl⟩:=aar he
   obtain⟨p,hp,rfl⟩:=afu.1 hq
   have:=hR.leak p (ahb.1 hp)
   grind
theorem DK:∀(N:Nat) (l:List Nat),l.Nodup->(∀x∈l,x<N)->l.length<=N
 | 0,l,_,h=>by
  cases l with
  | nil=>simp
  | cons x l=>exact absurd (h x (ag2 ..)) (by omega)
 | N+1,l,hn,h=>by
  have h1:=DK N (l.erase N) (hn.erase N) fun x hx=>by
   have h2:=h x (List.mem_of_mem_erase hx)
   have h3:x≠N:=fun e=>by subst e;exact (List.Nodup.mem_erase_iff hn).1 hx |>.1 rfl
   omega
  rw[List.length_erase]at h1
  split at h1<;>omega
def kL (l:List Nat):List Int:=l.map fun (p:Nat)=>(p:Int)
theorem Ya {l:List Nat} {i p:Nat} (h:l[i]? = some p):(kL l)[i]? = some (p:Int):=by unfold kL;rw[afs,h];rfl
theorem tl (l:List Nat):(kL l).length=l.length:=afZ ..
def ju (tk:List Tk) (p:Nat):List Nat:=(tk.filter fun t=>decide (t.2.1=p)).map fun t=>t.1
theorem HC {tk:List Tk} {p q:Nat} : q∈ju tk p↔∃t∈tk,t.1=q∧t.2.1=p:=by
 unfold ju
 simp only[afu,ag8,decide_eq_true_eq]
 constructor
 ·rintro⟨t,⟨h1,h2⟩,h3⟩;exact⟨t,h1,h3,h2⟩
 ·rintro⟨t,h1,h3,h2⟩;exact⟨t,⟨h1,h2⟩,h3⟩
theorem F5 (tk:List Tk) (p:Nat):(ju tk p).length<=tk.length:=by
 unfold ju
 rw[afZ]
 exact List.length_filter_le ..
theorem PJ {tk:List Tk} {i:Nat} {t:Tk} (h:tk[i]? = some t) (p:Nat):ju (tk.take (i+1)) p=if t.2.1=p then ju (tk.take i) p++[t.1] else ju (tk.take i) p:=by
 obtain⟨hi,he⟩:=afY.1 h
 unfold ju
 rw[ah0 hi,List.filter_append,List.map_append,he]
 by_cases hc:t.2.1=p
 ·rw[if_pos hc,List.filter_cons_of_pos (by simpa using hc)];rfl
 ·rw[if_neg hc,List.filter_cons_of_neg (by simpa using hc)];simp
structure yN (N:Nat) (tk:List Tk) (r:Nat->Int):Prop where
 ge:∀p,p<N -> -1<=r p
 zero:∀p,p<N->(r p=0↔0<dW tk p)
 down:∀p,p<N->0<r p->∃t∈tk,t.1=p∧r t.2.1=r p-1
 near:∀t∈tk,0<=r t.2.1->0<=r t.1∧r t.1<=r t.2.1+1
 le:∀p,p<N->r p<=2000
structure BF (N:Nat) (tk:List Tk) (r:Nat->Int) (D Q:List Nat) (h m:Int):Prop where
 nodup:(D++Q).Nodup
 lt:∀p∈D++Q,p<N
 rk:∀p,p<N->(0<=r p↔p∈D++Q)
 ge:∀p,p<N -> -1<=r p
 zero:∀p,p<N->(r p=0↔0<dW tk p)
 down:∀p,p<N->0<r p->∃t∈tk,t.1=p∧r t.2.1=r p-1
 near:∀t∈tk,t.2.1∈D->0<=r t.1∧r t.1<=r t.2.1+1
 mono:Q.Pairwise fun a b=>r a<=r b
 top:∀p∈D++Q,r p<=h+1
 low:∀q∈Q,h<=r q
 bnd:∀p,p<N->r p<=m
def VX (r:Nat->Int) (q:Nat) (v:Int):Nat->Int:=fun x=>if x=q then v else r x
theorem ja (r:Nat->Int) (q:Nat) (v:Int):VX r q v q=v:=if_pos rfl
theorem gr {r:Nat->Int} {q x:Nat} (v:Int) (h:x≠q):VX r q v x=r x:=if_neg h
theorem BF.pop {N:Nat} {tk:List Tk} {r:Nat->Int} {D Q:List Nat} {p:Nat} {h m:Int} (hB:BF N tk r D (p::Q) h m):BF N tk r D (p::Q) (r p) (m+1)∧0<=r p∧p<N∧r p<=m where
 left:={
  nodup:=hB.nodup,lt:=hB.lt,rk:=hB.rk,ge:=hB.ge,zero:=hB.zero,down:=hB.down,near:=hB.near,mono:=hB.mono
  top:=fun x hx=>by
   have h1:=hB.top x hx
   have h2:=hB.low p (ag2 ..)
   omega
  low:=fun q hq=>by
   rcases afC.1 hq with rfl|hq
   ·exact Int.le_refl _
   ·exact (ag9.1 hB.mono).1 q hq
  bnd:=fun x hx=>by have:=hB.bnd x hx;omega }
 right:=by
  have hm:p∈D++p::Q:=afK _ (ag2 ..)
  have hp:=hB.lt p hm
  exact⟨(hB.rk p hp).2 hm,hp,hB.bnd p hp⟩
theorem BF.push {N:Nat} {tk:List Tk} {r:Nat->Int} {D Q:List Nat} {p q:Nat} {m:Int} (hB:BF N tk r D (p::Q) (r p) m) (hp0:0<=r p) (hm:r p+1<=m) (hq:q<N) (hr:r q = -1) (ht:∃t∈tk,t.1=q∧t.2.1=p) :
  BF N tk (VX r q (r p+1)) D (p::(Q++[q])) (r p) m∧VX r q (r p+1) p=r p:=by
 have hqn:q∉D++p::Q:=fun h=>by have:=(hB.rk q hq).2 h;omega
 have hap:∀x,x∈D++p::(Q++[q])↔x∈D++p::Q∨x=q:=fun x=>by
  simp only[agL,afC,ah1,or_false]
  constructor
  ·rintro (h|h|h|h)<;>simp[h]
  ·rintro ((h|h|h)|h)<;>simp[h]
 have hne:∀x,x∈D++p::Q->x≠q:=fun x hx e=>hqn (e ▸ hx)
 have hpm:p∈D++p::Q:=afK _ (ag2 ..)
 have hpq:p≠q:=hne p hpm
 refine⟨?_,gr _ hpq⟩
 constructor
 ·have:D++p::(Q++[q])=(D++p::Q)++[q]:=by simp
  rw[this,List.nodup_append]
  refine⟨hB.nodup,by simp,fun a ha b hb =>?_⟩
  simp only[afC,ah1,or_false]at hb
  subst hb
  exact hne a ha
 ·intro x hx
  rcases (hap x).1 hx with h|rfl
  ·exact hB.lt x h
  ·exact hq
 ·intro x hx
  rw[hap]
  by_cases h:x=q
  ·subst h;rw[ja];exact⟨fun _ =>.inr rfl,fun _=>by omega⟩
  ·rw[gr _ h,hB.rk x hx];exact⟨.inl,fun k=>k.elim id fun e=>absurd e h⟩
 ·intro x hx
  by_cases h:x=q
  ·subst h;rw[ja];omega
  ·rw[gr _ h];exact hB.ge x hx
 ·intro x hx
  by_cases h:x=q
  ·subst h
   rw[ja]
   have:=hB.zero x hx
   constructor
   ·intro h;omega
   ·intro h;have:=this.2 h;omega
  ·rw[gr _ h];exact hB.zero x hx
 ·intro x hx h0
  by_cases h:x=q
  ·subst h
   obtain⟨t,h1,h2,h3⟩:=ht
   refine⟨t,h1,h2,?_⟩
   rw[h3,gr _ hpq,ja]
   omega
  ·rw[gr _ h]at h0 ⊢
   obtain⟨t,h1,h2,h3⟩:=hB.down x hx h0
   refine⟨t,h1,h2,?_⟩
   rw[gr _ (fun e=>by rw[e,hr]at h3;omega)]
   exact h3
 ·intro t ht' hD
  obtain⟨h1,h2⟩:=hB.near t ht' hD
  have e1:t.2.1≠q:=hne _ (afJ _ hD)
  have e2:t.1≠q:=fun e=>by rw[e]at h1;omega
  rw[gr _ e1,gr _ e2]
  exact⟨h1,h2⟩
 ·have h1:=hB.mono
  have:p::(Q++[q])=(p::Q)++[q]:=by simp
  rw[this,List.pairwise_append]
  refine⟨h1.imp_of_mem fun {a b} ha hb h =>?_,by simp,fun a ha b hb =>?_⟩
  ·rw[gr _ (hne a (afK _ ha)),gr _ (hne b (afK _ hb))]
   exact h
  ·simp only[afC,ah1,or_false]at hb
   subst hb
   rw[gr _ (hne a (afK _ ha)),ja]
   exact hB.top a (afK _ ha)
 ·intro x hx
  rcases (hap x).1 hx with h|rfl
  ·rw[gr _ (hne x h)];exact hB.top x h
  ·rw[ja];exact Int.le_refl _
 ·intro x hx
  by_cases h:x=q
  ·subst h;rw[ja];omega
  ·rw[gr _ h]
   apply hB.low x
   simp only[afC,agL,ah1,or_false]at hx ⊢
   rcases hx with h1|h1|h1
   ·exact .inl h1
   ·exact .inr h1
   ·exact absurd h1 h
 ·intro x hx
  by_cases h:x=q
  ·subst h;rw[ja];exact hm
  ·rw[gr _ h];exact hB.bnd x hx
theorem BF.finish {N:Nat} {tk:List Tk} {r:Nat->Int} {D Q:List Nat} {p:Nat} {h m:Int} (hB:BF N tk r D (p::Q) h m) (hn:∀q∈ju tk p,0<=r q∧r q<=r p+1):BF N tk r (D++[p]) Q h m:=by
 have e:(D++[p])++Q=D++p::Q:=by simp
 exact {
  nodup:=by rw[e];exact hB.nodup
  lt:=by rw[e];exact hB.lt
  rk:=by rw[e];exact hB.rk
  ge:=hB.ge,zero:=hB.zero,down:=hB.down
  near:=fun t ht hD=>by
   rcases agL.1 hD with h1|h1
   ·exact hB.near t ht h1
   ·simp only[afC,ah1,or_false]at h1
    rw[h1]
    exact hn t.1 (HC.2 ⟨t,ht,rfl,h1⟩)
  mono:=(ag9.1 hB.mono).2
  top:=by rw[e];exact hB.top
  low:=fun q hq=>hB.low q (ag3 _ hq)
  bnd:=hB.bnd }
theorem BF.adz {N:Nat} {tk:List Tk} {r:Nat->Int} {D:List Nat} {h m:Int} (hB:BF N tk r D [] h m) (ht:∀t∈tk,t.1<N∧t.2.1<N) (hm:m<=2000):yN N tk r where
 ge:=hB.ge
 zero:=hB.zero
 down:=hB.down
 near t h1 h2:=hB.near t h1 (by have:=(hB.rk t.2.1 (ht t h1).2).1 h2;simpa using this)
 le p hp:=by have:=hB.bnd p hp;omega
theorem YK {α:Type} (a:α) (l:List α):Bm (a::l) 1 ((a::l).length:Int)=some l:=by
 unfold Bm
 rw[if_pos ⟨by omega,by simp;omega,by omega⟩]
 simp
variable {N:Nat} {tk:List Tk}
theorem Q6 {r:Nat->Int} {D Q:List Nat} {p:Nat} {m:Int} (hB:BF N tk r D (p::Q) (r p) m) (hp:p<N) (hp0:0<=r p) (hm:r p+1<=m) (hm2:m<=2001) (htk:∀t∈tk,t.1<N∧t.2.1<N) (hlen:tk.length<=8000) (hN:N<=2000) :
  ∃r' Q',bf (iT (p:Int) (kL (ju tk p))) ((0:Int),(List.range N).map r,kL Q)=some ((List.range N).map r',kL Q')∧BF N tk r' (D++[p]) Q' (r p) m:=by
 have hbl:=F5 tk p
 have key:=fun hs he=>UR (body:=iT (p:Int) (kL (ju tk p))) (ju tk p) (by omega) (fun i (s:List Int×List Int)=>∃r' Q',s=((List.range N).map r',kL Q')∧BF N tk r' D (p::Q') (r p) m∧r' p=r p∧∀q∈(ju tk p).take i,0<=r' q∧r' q<=r p+1)
  (fun x=>∃r' Q',x=((List.range N).map r',kL Q')∧BF N tk r' (D++[p]) Q' (r p) m) (s0:=((List.range N).map r,kL Q)) ⟨r,Q,rfl,hB,rfl,fun q hq=>by simp at hq⟩ hs he
 refine (key ?_ ?_).elim fun x ⟨h1,r',Q',hx,h2⟩=>⟨r',Q',hx ▸ h1,h2⟩
 ·rintro i q _ hq ⟨r',Q',rfl,hB',hrp,hnear⟩
  have hi:=gw hq
  have hqm:=afX hq
  obtain⟨t,ht1,ht2,ht3⟩:=HC.1 hqm
  have hqN:q<N:=by rw[<- ht2];exact (htk t ht1).1
  have htake:(ju tk p).take (i+1)=(ju tk p).take i++[q]:=by
   rw[ah0 hi,(afY.1 hq).2]
  have hQl:Q'.length<=N:=by
   have h1:=DK N (D++p::Q') hB'.nodup hB'.lt
   simp only[agF,List.length_cons]at h1
   omega
  simp only[iT]
  rw[if_pos (by rw[tl];simp;omega),eB (Ya hq),ag5,eB (dj r' hqN),ag5]
  by_cases hc:r' q = -1
  ·rw[if_pos (by rw[hc];rfl),eB (dj r' hp),ag5,hrp,PG (by rw[tl];simp;omega),ag5,fH (by omega),agv,nn]
   have hw:IntKind.i64.wrap (r p+1)=r p+1:=wrap64 (by omega) (by omega)
   rw[hw]
   have hB2:=hB'
   rw[<- hrp]at hB2
   obtain⟨h1,h2⟩:=hB2.push (by omega) (by omega) hqN hc ⟨t,ht1,ht2,ht3⟩
   rw[hrp]at h1 h2
   refine⟨_,rfl,VX r' q (r p+1),Q'++[q],?_,h1,h2,fun x hx =>?_⟩
   ·unfold kL VX;simp
   ·rw[htake]at hx
    rcases agL.1 hx with hx|hx
    ·have:=hnear x hx
     by_cases hxq:x=q
     ·subst hxq;rw[hc]at this;omega
     ·rw[gr _ hxq];exact this
    ·simp only[afC,ah1,or_false]at hx
     subst hx
     rw[ja];omega
  ·rw[if_neg (by simpa using hc),fH (by omega)]
   refine⟨_,rfl,r',Q',rfl,hB',hrp,fun x hx =>?_⟩
   rw[htake]at hx
   rcases agL.1 hx with hx|hx
   ·exact hnear x hx
   ·simp only[afC,ah1,or_false]at hx
    subst hx
    have h0:0<=r' x:=by have:=hB'.ge x hqN;omega
    exact⟨h0,hB'.top x ((hB'.rk x hqN).1 h0)⟩
 ·rintro _ ⟨r',Q',rfl,hB',hrp,hnear⟩
  refine⟨_,?_,r',Q',rfl,hB'.finish fun q hq =>?_⟩
  ·simp only[iT]
   rw[if_neg (by rw[tl];simp)]
  ·rw[ahw]at hnear
   rw[hrp]
   exact hnear q hq
theorem Q7 {r:Nat->Int} {Q:List Nat} (hB:BF N tk r [] Q 0 0) (htk:∀t∈tk,t.1<N∧t.2.1<N) (hlen:tk.length<=8000) (hN:N<=2000) :
  ∃r',bf (iS ((List.range N).map fun p=>kL (ju tk p))) ((List.range N).map r,kL Q)=some ((List.range N).map r')∧yN N tk r':=by
 have key:=fun hs=>fe (body:=iS ((List.range N).map fun p=>kL (ju tk p))) (fun i (s:List Int×List Int)=>∃r' D Q' h,s=((List.range N).map r',kL Q')∧D.length=i∧BF N tk r' D Q' h (i:Int)) N
  (fun x=>∃r',x=(List.range N).map r'∧yN N tk r') (s:=((List.range N).map r,kL Q)) ⟨r,[],Q,0,rfl,rfl,hB⟩ (oT (by omega)) hs
 refine (key ?_).elim fun x ⟨h1,r',hx,h2⟩=>⟨r',hx ▸ h1,h2⟩
 ·rintro i _ hi ⟨r',D,Q',h,rfl,hD,hB'⟩
  cases Q' with
  | nil =>
   refine .inr ⟨_,?_,r',rfl,hB'.adz htk (by omega)⟩
   simp only[iS,kL,agk]
   rw[if_neg (by simp)]
  | cons p Q' =>
   obtain⟨hB2,hp0,hp,hpm⟩:=hB'.pop
   have hiN:i<N:=by
    have h1:=DK N (D++p::Q') hB'.nodup hB'.lt
    simp only[agF,List.length_cons]at h1
    omega
   obtain⟨r2,Q2,h1,h2⟩:=Q6 hB2 hp hp0 (by omega) (by omega) htk hlen hN
   refine .inl ⟨hiN,((List.range N).map r2,kL Q2),?_,r2,D++[p],Q2,r' p,rfl,by simp[hD],by simpa using h2⟩
   simp only[iS]
   have e1:kL (p::Q')=(p:Int)::kL Q':=rfl
   rw[e1,if_pos (by simp),idx_zero' ,ag5,YK,ag5,eB (dj (fun p=>kL (ju tk p)) hp),ag5,h1,ag5]
where
 idx_zero':∀ {α:Type} {a:α} {l:List α},P.idx (a::l) 0=some a:=fun {_ a l}=>eB (l:=a::l) (i:=0) rfl
theorem Uy {L:Nat} (htk:∀t∈tk,t.1<N∧t.2.1<N) (hlen:tk.length<=8000) :
  bf (iQ (p9 N tk)) ((0:Int),List.replicate N ([]:List Int))=some ((List.range N).map fun p=>kL (ju tk p)):=by
 unfold p9
 have key:=fun hs he=>UR (body:=iQ (cz.mk (N:Int) (tk.map xI))) tk (by omega) (fun i l=>l=(List.range N).map fun p=>kL (ju (tk.take i) p)) (fun l=>l=(List.range N).map fun p=>kL (ju tk p)) (s0:=List.replicate N ([]:List Int))
  (lr (by simp) fun j hj=>by rw[List.getElem?_replicate,if_pos hj,List.take_zero];rfl) hs he
 refine (key ?_ ?_).elim fun x ⟨h1,hx⟩=>hx ▸ h1
 ·rintro i t _ ht rfl
  have hi:=gw ht
  have hto:=(htk t (afX ht)).2
  have hg:(tk.map xI)[i]? = some (xI t):=by rw[afs,ht];rfl
  have hbl:=F5 (tk.take i) t.2.1
  rw[afO]at hbl
  refine⟨_,?_,rfl⟩
  simp only[iQ]
  rw[if_pos (by simp;omega),eB hg,ag5]
  simp only[xI]
  rw[eB (dj _ hto),ag5,PG (by rw[tl];simp;omega),ag5,fH (by omega),agv,nn]
  congr 3
  refine congrArg (fun f=>(List.range N).map f) (funext fun p =>?_)
  rw[PJ ht]
  by_cases h:p=t.2.1
  ·subst h;rw[if_pos rfl,if_pos rfl];unfold kL;simp
  ·rw[if_neg h,if_neg (fun e=>h e.symm)]
 ·rintro _ rfl
  refine⟨_,?_,rfl⟩
  simp only[iQ]
  rw[if_neg (by simp),ahw]
def AM (tk:List Tk) (p:Nat):Int:=if 0<dW tk p then 0 else -1
def kR (tk:List Tk) (n:Nat):List Nat:=(List.range n).filter fun p=>decide (0<dW tk p)
theorem OC (tk:List Tk) (n:Nat):kR tk (n+1)=if 0<dW tk n then kR tk n++[n] else kR tk n:=by
 unfold kR
 rw[List.range_succ,List.filter_append]
 by_cases h:0<dW tk n
 ·rw[if_pos h,List.filter_cons_of_pos (by simpa using h)];rfl
 ·rw[if_neg h,List.filter_cons_of_neg (by simpa using h)];simp
theorem UY {K:Nat} (hN:N<=2000) (hlen:tk.length<=8000) (hK:K<=1000000) (hs:∀t∈tk,LF t.2.2<=K) :
  bf (iR ((List.range N).map fun p=>mD (dW tk p))) ((0:Int),List.replicate N (0:Int),([]:List Int))=some ((List.range N).map (AM tk),kL (kR tk N)):=by
 have key:=fun hs he=>UR (body:=iR ((List.range N).map fun p=>mD (dW tk p))) (List.range N) (by simp;omega) (fun i (s:List Int×List Int)=>s=((List.range N).map (fun p=>if p<i then AM tk p else 0),kL (kR tk i))) (fun s=>s=((List.range N).map (AM tk),kL (kR tk N))) (s0:=(List.replicate N (0:Int),([]:List Int)))
  (by rw[show kR tk 0=[] from rfl];refine Prod.ext ?_ rfl;exact lr (by simp) fun j hj=>by rw[List.getElem?_replicate,if_pos hj,if_neg (by omega)]) hs he
 refine (key ?_ ?_).elim fun x ⟨h1,hx⟩=>hx ▸ h1
 ·rintro i x _ hx rfl
  have hi:i<N:=by have:=gw hx;simpa using this
  have hLF:=BJ hs i
  have h2:tk.length*(K+1)<=8000*1000001:=Nat.mul_le_mul hlen (by omega)
  have hql:(kR tk i).length<=i:=by unfold kR;have:=List.length_filter_le (fun p=>decide (0<dW tk p)) (List.range i);simpa using this
  refine⟨_,?_,rfl⟩
  simp only[iR]
  rw[if_pos (by simp;omega),eB (dj (fun p=>mD (dW tk p)) hi),ag5,eB (dj _ hi),ag5,Ja (by unfold jt;omega),ag5,agv,nn,nn,fH (by omega),OC]
  by_cases hl:0<dW tk i
  ·rw[if_pos (by simpa using u9.2 hl),eB (dj _ hi),ag5,PG (by rw[tl];simp;omega),ag5,if_pos hl]
   refine congrArg some (congrArg Sum.inl (congrArg (Prod.mk _) (Prod.ext ?_ ?_)))
   ·refine congrArg (fun f=>(List.range N).map f) (funext fun p =>?_)
    by_cases h:p=i
    ·subst h;rw[if_pos rfl,if_pos (by omega)];unfold AM;rw[if_pos hl]
    ·rw[if_neg h,if_neg h]
     by_cases h3:p<i
     ·rw[if_pos h3,if_pos (by omega)]
     ·rw[if_neg h3,if_neg (by omega)]
   ·unfold kL;simp
  ·rw[if_neg (by simpa using fun h=>hl (u9.1 h)),if_neg hl]
   refine congrArg some (congrArg Sum.inl (congrArg (Prod.mk _) (Prod.ext ?_ rfl)))
   refine congrArg (fun f=>(List.range N).map f) (funext fun p =>?_)
   by_cases h:p=i
   ·subst h;rw[if_pos rfl,if_pos (by omega)];unfold AM;rw[if_neg hl]
   ·rw[if_neg h]
    by_cases h3:p<i
    ·rw[if_pos h3,if_pos (by omega)]
    ·rw[if_neg h3,if_neg (by omega)]
 ·rintro _ rfl
  refine⟨_,?_,rfl⟩
  simp only[iR]
  rw[if_neg (by simp),af0]
  refine congrArg some (congrArg Sum.inr (Prod.ext ?_ rfl))
  refine lr (by simp) fun j hj =>?_
  rw[dj _ hj,if_pos hj]
theorem aal (N:Nat) (tk:List Tk):BF N tk (AM tk) [] (kR tk N) 0 0:=by
 have hm:∀p,p∈kR tk N↔p<N∧0<dW tk p:=fun p=>by unfold kR;simp[ag8]
 have h0:∀p,0<dW tk p->AM tk p=0:=fun p h=>if_pos h
 have h1:∀p,¬0<dW tk p->AM tk p = -1:=fun p h=>if_neg h
 constructor
 ·rw[ahe];unfold kR;exact List.nodup_range.filter _
 ·intro p hp;rw[ahe]at hp;exact ((hm p).1 hp).1
 ·intro p hp
  rw[ahe,hm]
  by_cases h:0<dW tk p
  ·rw[h0 p h];simp[hp,h]
  ·rw[h1 p h];simp[h]
 ·intro p hp
  by_cases h:0<dW tk p
  ·rw[h0 p h];omega
  ·rw[h1 p h];omega
 ·intro p hp
  by_cases h:0<dW tk p
  ·rw[h0 p h];simp[h]
  ·rw[h1 p h];simp[h]
 ·intro p hp hpos
  by_cases h:0<dW tk p
  ·rw[h0 p h]at hpos;omega
  ·rw[h1 p h]at hpos;omega
 ·intro t _ h;simp at h
 ·refine List.Pairwise.imp_of_mem (R:=fun _ _=>True) (fun {a b} ha hb _ =>?_) (List.pairwise_of_forall (fun _ _=>trivial))
  rw[h0 a ((hm a).1 ha).2,h0 b ((hm b).1 hb).2]
  exact Int.le_refl _
 ·intro p hp
  rw[ahe]at hp
  rw[h0 p ((hm p).1 hp).2];omega
 ·intro q hq;rw[h0 q ((hm q).1 hq).2];omega
 ·intro p hp
  by_cases h:0<dW tk p
  ·rw[h0 p h];omega
  ·rw[h1 p h];omega
theorem Yz {K:Nat} (hR:yO N tk) (hK:K<=1000000) (hs:∀t∈tk,LF t.2.2<=K):∃r,gx (p9 N tk)=some ((List.range N).map r)∧yN N tk r:=by
 have hN:=hR.ports
 have hlen:=hR.takes
 have htk:∀t∈tk,t.1<N∧t.2.1<N:=fun t ht=>⟨(hR.ok t ht).1,(hR.ok t ht).2.1⟩
 obtain⟨b,hb1,hb2⟩:=zf (n:=p9 N tk) hK (fun t ht=>by
  simp only[p9,afu]at ht
  obtain⟨t',h1,rfl⟩:=ht
  exact Sy (hs t' h1))
 obtain rfl:b=true:=hb2.2 ⟨N,tk,rfl,hR⟩
 obtain⟨r',h1,h2⟩:=Q7 (aal N tk) htk hlen hN
 refine⟨r',?_,h2⟩
 unfold gx
 rw[hb1,ag5]
 simp only[agY,af5,if_false]
 have e1:(p9 N tk).aC=(N:Int):=rfl
 rw[e1,Th _ (by omega) hN,ag5,Uy (L:=0) htk hlen,ag5,Th _ (by omega) hN,ag5,Dq hN hlen (fun t ht=>(htk t ht).1) hK hs,ag5,UY hN hlen hK hs,ag5]
 simp only
 rw[h1,ag5]
end Go.Proofs.YtmcncjgbkobjnaaGreat.P
namespace Go.Proofs.YtmcncjgbkobjnaaGreat.P
open Go.RowKit
set_option maxRecDepth 100000
theorem acq:pN=some true:=by kernel_rfl
theorem Xt {n:cz} (hl:n.aw.length<=17592186044416):∃b,iG n=some b∧(b=true->n.aw.length<=40∧(∀t∈n.aw,t.bR.aZ.aa.length<=6∧t.bR.aX.aa.length<=6)∧(n.aC<=12∨2000<n.aC)):=by
 unfold iG
 have htl:(n.aw.take 40).length=min 40 n.aw.length:=afO
 rw[TD (n.aw.take 40) (fun i x=>if decide ((x.bR.aZ.aa.length:Int)<=6∧(x.bR.aX.aa.length:Int)<=6)=true then none else some false) (by omega) (fun i x hx =>?_) (by
  simp only[lP]
  by_cases h:40<n.aw.length
  ·rw[if_pos (by rw[htl];simp;omega),ag5,if_neg (by rw[htl];simp;omega)]
  ·rw[if_neg (by rw[htl];simp;omega),ag5];rfl)]
 ·rw[ag5]
  cases hfs:jQ (fun (i:Nat) (x:bI)=>if decide ((x.bR.aZ.aa.length:Int)<=6∧(x.bR.aX.aa.length:Int)<=6)=true then none else some false) 0 (n.aw.take 40) with
  | none =>
   have hmain:(n.aw.length:Int)<=40->∀t∈n.aw,t.bR.aZ.aa.length<=6∧t.bR.aX.aa.length<=6:=fun h t ht=>by
    obtain⟨j,hj⟩:=afR ht
    have:=l8.1 hfs j t (by rw[agW (by omega)];exact hj)
    split at this
    ·rename_i h;have:=of_decide_eq_true h;omega
    ·cases this
   simp only
   by_cases h1:n.aC<=12
   ·rw[if_pos (by simpa using h1)]
    exact⟨_,rfl,fun h=>by have h':=of_decide_eq_true h;exact⟨by omega,hmain h',.inl h1⟩⟩
   ·rw[if_neg (by simpa using h1)]
    by_cases h2:n.aC>2000
    ·rw[if_pos (by simpa using h2)]
     exact⟨_,rfl,fun h=>by have h':=of_decide_eq_true h;exact⟨by omega,hmain h',.inr h2⟩⟩
    ·rw[if_neg (by simpa using h2)]
     exact⟨_,rfl,fun h=>by cases h⟩
  | some r =>
   obtain⟨j,x,_,h2,_⟩:=oH hfs
   split at h2
   ·cases h2
   ·cases h2;exact⟨false,rfl,fun h=>by cases h⟩
 ·have hi:=gw hx
  rw[htl]at hi
  rw[afL,if_pos (by omega)]at hx
  simp only[lP]
  rw[if_pos (by simp;omega),ag5,if_pos (by simp;omega),eB hx,ag5,aeL,ag5]
  by_cases hc:(x.bR.aZ.aa.length:Int)<=6∧(x.bR.aX.aa.length:Int)<=6
  ·rw[decide_eq_true hc,fH (by omega)];rfl
  ·rw[decide_eq_false hc];rfl
theorem ab9 {N K:Nat} {tk:List Tk} (hR:yO N tk) (hK:K<=1000000) (hs:∀t∈tk,LF t.2.2<=K) {p:Nat} (hp:p<N):kM (p9 N tk) (p:Int)=some (mD (dW tk p)):=by
 have hN:=hR.ports
 obtain⟨b,hb1,hb2⟩:=zf (n:=p9 N tk) hK (fun t ht=>by
  simp only[p9,afu]at ht
  obtain⟨t',h1,rfl⟩:=ht
  exact Sy (hs t' h1))
 obtain rfl:b=true:=hb2.2 ⟨N,tk,rfl,hR⟩
 unfold kM
 have e0:(p9 N tk).aC=(N:Int):=rfl
 rw[hb1,ag5,vf,ag5,e0,wrap64 (by omega) (by omega),decide_eq_true (show (0:Int)<=(p:Int)∧(p:Int)<=(N:Int)-1 by omega),Dq hN hR.takes (fun t ht=>(hR.ok t ht).1) hK hs,ag5,eB (dj _ hp)]
 rfl
theorem aam {N:Nat} {tk:List Tk} (hR:yO N tk) (hs:∀t∈tk,LF t.2.2<=6) (hl:tk.length<=40) {p:Nat} (hp:p<N):∃c,kM (p9 N tk) (p:Int)=some c∧eT c=some (dW tk p).num.sign:=by
 have h1:=BJ hs p
 have hLm:jt=4398046511104:=rfl
 exact⟨_,ab9 hR (by decide) hs hp,Ja (by omega)⟩
theorem Yb {n:cz} (hl:n.aw.length<=17592186044416):∃b,iG n=some b∧(b=true->∃c,gz n=some c∧(c=true->∃N tk r,n=p9 N tk∧yO N tk∧(∀t∈tk,LF t.2.2<=6)∧tk.length<=40∧N<=12∧gx n=some ((List.range N).map r)∧yN N tk r)):=by
 obtain⟨b,h1,h2⟩:=Xt hl
 refine⟨b,h1,fun hb =>?_⟩
 obtain⟨q1,q2,q3⟩:=h2 hb
 obtain⟨c,c1,c2⟩:=zf (K:=6) (by decide) q2
 refine⟨c,c1,fun hc =>?_⟩
 obtain⟨N,tk,rfl,hR⟩:=c2.1 hc
 have hs:∀t∈tk,LF t.2.2<=6:=fun t ht=>by
  have:=q2 (xI t) (by simp only[p9];exact List.mem_map_of_mem ht)
  exact I8 this.1 this.2
 obtain⟨r,r1,r2⟩:=Yz hR (by decide) hs
 have hN:=hR.ports
 exact⟨N,tk,r,rfl,hR,hs,by simpa [p9] using q1,by simp only[p9]at q3;omega,r1,r2⟩
section
variable {N:Nat} {tk:List Tk} {r:Nat->Int}
theorem UK (hR:yO N tk) (hr:yN N tk r) (hlen:tk.length<=40) (hN:N<=12) :
  ∃d:Nat->Bool,bf (e7 (p9 N tk) ((List.range N).map r)) ((0:Int),List.replicate N false)=some (.inl ((List.range N).map d))∧∀p,p<N->0<r p->d p=true:=by
 have e3:(p9 N tk).aw=tk.map xI:=rfl
 have key:=fun hst hend=>UR (body:=e7 (p9 N tk) ((List.range N).map r)) tk (by omega)
  (fun i (l:List Bool)=>∃d:Nat->Bool,l=(List.range N).map d∧∀t∈tk.take i,0<r t.1->r t.2.1=r t.1-1->d t.1=true)
  (fun q=>∃d:Nat->Bool,q=.inl ((List.range N).map d)∧∀p,p<N->0<r p->d p=true) (s0:=List.replicate N false)
  ⟨fun _=>false,lr (by simp) fun j hj=>by rw[List.getElem?_replicate,if_pos hj],fun t ht=>by simp at ht⟩ hst hend
 refine (key ?_ ?_).elim fun x ⟨h1,d,hx,hd⟩=>⟨d,hx ▸ h1,hd⟩
 ·rintro i t _ ht ⟨d,rfl,hd⟩
  have hi:=gw ht
  have hmem:=afX ht
  obtain⟨q1,q2,_⟩:=hR.ok t hmem
  have hg:(tk.map xI)[i]? = some (xI t):=by rw[afs,ht];rfl
  have w2:(xI t).gD=(t.2.1:Int):=rfl
  have w3:(xI t).bT=(t.1:Int):=rfl
  have hnear:=hr.near t hmem
  have hle:=hr.le _ q1
  have hge1:=hr.ge _ q1
  have hge2:=hr.ge _ q2
  have hw:IntKind.i64.wrap (r t.1-1)=r t.1-1:=jL (by omega)
  have hbad:(if decide (r t.1>0)=true then if decide (r t.2.1>=0)=true then if decide (r t.2.1<IntKind.i64.wrap (r t.1-1))=true then some true else if decide (r t.1<0)=true then some (decide (r t.2.1>=0)) else some false else if decide (r t.1<0)=true then some (decide (r t.2.1>=0)) else some false else if decide (r t.1<0)=true then some (decide (r t.2.1>=0)) else some false)=some false:=by
   rw[hw]
   simp only[decide_eq_true_eq]
   repeat' split
   all_goals first|rfl|(exfalso;omega)|(rw[decide_eq_false (by omega)])
  have htake:∀u∈tk.take (i+1),u∈tk.take i∨u=t:=fun u hu=>by
   obtain⟨hi',he⟩:=afY.1 ht
   rw[ah0 hi',he]at hu
   rcases agL.1 hu with h|h
   ·exact .inl h
   ·exact .inr (by simpa using h)
  by_cases hc:0<r t.1∧r t.2.1=r t.1-1
  ·refine⟨(List.range N).map fun p=>if p=t.1 then true else d p,?_,fun p=>if p=t.1 then true else d p,rfl,fun u hu h1 h2 =>?_⟩
   ·simp only[e7]
    rw[if_pos (by rw[e3];simp;omega),e3,eB hg,ag5,w3,eB (dj r q1),ag5,w2,eB (dj r q2),ag5,hbad,ag5,if_neg (by simp),if_pos (by simpa using hc.1),hw,ag5,if_pos (by simpa using hc.2),eB (dj d q1),ag5,agv,nn,fH (by omega)]
   ·show (if u.1=t.1 then true else d u.1)=true
    by_cases hut:u.1=t.1
    ·rw[if_pos hut]
    ·rw[if_neg hut]
     rcases htake u hu with h|rfl
     ·exact hd u h h1 h2
     ·exact absurd rfl hut
  ·refine⟨(List.range N).map d,?_,d,rfl,fun u hu h1 h2 =>?_⟩
   ·simp only[e7]
    rw[if_pos (by rw[e3];simp;omega),e3,eB hg,ag5,w3,eB (dj r q1),ag5,w2,eB (dj r q2),ag5,hbad,ag5,if_neg (by simp)]
    by_cases h0:0<r t.1
    ·rw[if_pos (by simpa using h0),hw,ag5,if_neg (by simp;omega),fH (by omega)]
    ·rw[if_neg (by simpa using h0),ag5,if_neg (by simp),fH (by omega)]
   ·rcases htake u hu with h|rfl
    ·exact hd u h h1 h2
    ·exact absurd ⟨h1,h2⟩ hc
 ·rintro _ ⟨d,rfl,hd⟩
  refine⟨_,?_,d,rfl,fun p hp h0 =>?_⟩
  ·simp only[e7]
   rw[if_neg (by rw[e3];simp)]
  ·obtain⟨t,ht,rfl,h2⟩:=hr.down p hp h0
   exact hd t (by rw[ahw];exact ht) h0 h2
end
theorem KH (a0:cz) (h0:a0.aw.length<=17592186044416):gM a0=some true:=by
 obtain⟨b,e1,e2⟩:=Yb h0
 unfold gM
 rw[acq,ag5,e1,ag5]
 cases b with
 | false=>rfl
 | true =>
 obtain⟨c,c1,c2⟩:=e2 rfl
 simp only[agY,af5,if_false]
 rw[c1,ag5,ag5]
 cases c with
 | false=>rfl
 | true =>
 obtain⟨N,tk,r,rfl,hR,hs,hlen,hN,hr1,hr⟩:=c2 rfl
 obtain⟨d,hd1,hd2⟩:=UK hR hr hlen hN
 simp only[agY,af5,if_false]
 rw[hr1,ag5]
 simp only[afZ,af0]
 rw[if_neg (by simp[p9]),Th _ (by omega) (by omega),ag5,hd1,ag5]
 simp only
 rw[TD (List.range N) (fun _ _=>(none:Option Bool)) (by simp;omega) (fun i f hf =>?_) (by simp only[jJ];rw[if_neg (by simp)])]
 ·have hno:∀(l:List Nat) i,jQ (fun _ _=>(none:Option Bool)) i l=none:=by
   intro l
   induction l with
   | nil=>intro i;rfl
   | cons a l ih=>intro i;simp only[jQ];exact ih _
  rw[hno];rfl
 ·have hi:i<N:=by have:=gw hf;simpa using this
  obtain⟨q,l1,l2⟩:=aam hR hs hlen hi
  have hz:=hr.zero i hi
  have hge:=hr.ge i hi
  simp only[jJ]
  rw[if_pos (by simp;omega),eB (dj r hi),ag5,if_neg (by simp;omega),l1,ag5,l2,ag5]
  have hsg:decide ((dW tk i).num.sign>0)=(r i==0):=by
   by_cases h:r i=0
   ·rw[decide_eq_true (u9.2 (hz.1 h)),h];rfl
   ·rw[decide_eq_false (fun h'=>h (hz.2 (u9.1 h')))]
    exact (beq_eq_false_iff_ne.2 h).symm
  rw[hsg,if_neg (by simp)]
  by_cases h0:0<r i
  ·rw[if_pos (by simpa using h0),eB (dj d hi),ag5,hd2 i hi h0,if_neg (by simp),fH (by omega)]
  ·rw[if_neg (by simpa using h0),fH (by omega)]
end Go.Proofs.YtmcncjgbkobjnaaGreat.P
