import Derived.Test.YtmcncjgbkobjnaaGreatJf
set_option linter.unusedSimpArgs false
set_option linter.unusedVariables false
noncomputable section
open Go.Proofs.Tryz
namespace Go.Proofs.YtmcncjgbkobjnaaGreat
theorem zzn:type_of%@if_neg.{1}:=@if_neg
theorem zzp:type_of%@if_pos.{1}:=@if_pos
end Go.Proofs.YtmcncjgbkobjnaaGreat
namespace Go.Proofs.YtmcncjgbkobjnaaGreat.Am
open Go.ChangeShapes Go.WideShapes Go.ChangeAt Go.RowKit Go.Proofs.YtmcncjgbkobjnaaGreat.P
set_option maxRecDepth 100000
theorem Tryz.own:ownKnob Tryz.prog.godebug=none:=by kernel_rfl
theorem Tryz.laidOut:laidOutB prog=true:=by kernel_rfl
theorem YI (n:Nat):R8 tab (n+1) 3 (eI .i64) (fun x=>(Lit.int .i64 x).wf=true):=opI Uv rfl rfl
theorem adN (n:Nat):R8 tab (n+2) 22 (lf (eI .i64)) (fun x=>(x.length*8<=140737488351232∧∀y∈x,(Lit.int .i64 y).wf=true)):=adM KA rfl rfl (by rw[Uv];rfl) (YI n)
def Ke (x:ak):Prop:=(Lit.int .i64 x.ae).wf=true∧((x.aa.length*8<=140737488351232∧∀y∈x.aa,(Lit.int .i64 y).wf=true))
theorem abO (n:Nat):R8 tab (n+3) 40 dx (fun x=>Ke x):=opS (g:=fun y=>ak.mk y.1 y.2) Rs rfl rfl (fun _=>rfl) (YH (YI (n+1)) rfl (aaQ (adN n)))
def Ou (x:ao):Prop:=Ke x.aZ∧(Ke x.aY)
theorem adQ (n:Nat):R8 tab (n+4) 42 aC (fun x=>Ou x):=opS (g:=fun y=>ao.mk y.1 y.2) Rt rfl rfl (fun _=>rfl) (YH (abO n) rfl (aaQ (abO n)))
def D0 (x:bJ):Prop:=(Lit.int .i64 x.bT).wf=true∧((Lit.int .i64 x.gA).wf=true∧(Ou x.bF))
theorem adR (n:Nat):R8 tab (n+5) 63 aM (fun x=>D0 x):=opS (g:=fun y=>bJ.mk y.1 y.2.1 y.2.2) KC rfl rfl (fun _=>rfl) (YH (YI (n+3)) rfl (YH (YI (n+3)) rfl (aaQ (adQ n))))
theorem adO (n:Nat):R8 tab (n+6) 26 (lf aM) (fun x=>(x.length*80<=140737488351232∧∀y∈x,D0 y)):=adM Rr rfl rfl (by rw[KC];rfl) (adR n)
def BG (x:cu):Prop:=(Lit.int .i64 x.az).wf=true∧((x.av.length*80<=140737488351232∧∀y∈x.av,D0 y))
theorem adP (n:Nat):R8 tab (n+7) 28 pT (fun x=>BG x):=opS (g:=fun y=>cu.mk y.1 y.2) KB rfl rfl (fun _=>rfl) (YH (YI (n+5)) rfl (aaQ (adO n)))
theorem tK:Ww tab 8 [28,65] (jO (bM pT) (eU (aI .u16))) (fun x=>BG x.1∧((Lit.int .u16 x.2).wf=true)):=(afc (oaS KB rfl (adP 1)) (afb (oaI Ru rfl)))
theorem sw (law:∀(a0:cu) (a1:Int),(BG a0)->((Lit.int .u16 a1).wf=true)->P.fD a0 a1=some true) (os:Os) (started:os.Started) (H:Type) (enc:TypeId×Value->H) :
  ReturnsInHanded {} Tryz.checked os 6 .any (Rows.netTrappedSpec.pre6 enc prog Tryz.f6 Rows.netTrappedRow.domain false) (Rows.netTrappedSpec.post enc prog Tryz.f6 false true false false):=by
 refine Rl (C:=Tryz.checked) (T:=tab) (tb:=4) (n:=8) tok Tryz.own started (by kernel_rfl) func6
  (ChangeSpec.witness6 (enc:=enc) (C:=Tryz.checked) false ⟨#[],#[.agg #[.int .i64 0,.slice none 0 0],.int .u16 0],[]⟩ 8 (by kernel_rfl) (by kernel_rfl) (by kernel_rfl) (by kernel_rfl)) Tryz.laidOut (by kernel_rfl) rfl (by kernel_rfl) rfl (fun ds hds =>?_) (fun ar hl hs =>?_)
 ·rw[Tryz.params6]at hds
  match ds,hds with
  | [d0,d1],_=>exact⟨rfl,rfl,rfl⟩
 ·rw[Tryz.params6]at hl hs
  exact acp tK yd (fun x hx=>law x.1 x.2 hx.1 hx.2) ar hl hs
theorem tu (law:∀(a0:cu) (a1:Int),(BG a0)->((Lit.int .u16 a1).wf=true)->P.fD a0 a1=some true):Rows.NetTrappedSaid :=
 OpenClaim.holds_of_wide 6 Tryz.f6 rfl rfl rfl rfl rfl rfl rfl ⟨rfl,rfl,rfl,rfl,rfl⟩ rfl rfl rfl rfl rfl (by kernel_rfl) func6 (by kernel_rfl)
  (of_decide_eq_true (by kernel_rfl)) (by unfold Func.isWrapper;first|(rw[zzp (by decide +kernel)];kernel_rfl)|(rw[zzn (by decide +kernel)];exact⟨rfl,rfl⟩))
  (fun os started H enc _=>sw law os started H enc)
end Go.Proofs.YtmcncjgbkobjnaaGreat.Am
namespace Go.Proofs.YtmcncjgbkobjnaaGreat.P
open Go.RowKit
def bf (n:Nat):List Int:=if h:n=0 then [] else ((n % 1048576:Nat):Int)::bf (n / 1048576)
termination_by n
decreasing_by omega
def dv:List Int->Int
 | []=>0
 | d::l=>d+1048576*dv l
def Dg (l:List Int):Prop:=∀d∈l,0<=d∧d<1048576
def pw (i:Nat):Int:=1048576 ^ i
theorem rG:pw 0=1:=rfl
theorem lV (i:Nat):pw (i+1)=1048576*pw i:=by unfold pw;rw[Int.pow_succ,ahX]
theorem ox (i:Nat):0<pw i:=by unfold pw;exact Int.pow_pos (by decide)
theorem Kq (i j:Nat):pw (i+j)=pw i*pw j:=by unfold pw;rw[Int.pow_add]
theorem rF {i j:Nat} (h:i<=j):pw i<=pw j:=by
 obtain⟨k,rfl⟩:=Nat.le.dest h
 rw[Kq]
 have h1:=ox i
 have h2:=ox k
 calc pw i=pw i*1:=by rw[ahY]
  _<=pw i*pw k:=ahZ (by omega) (by omega)
theorem cR:bf 0=[]:=by rw[bf];rfl
theorem me {n:Nat} (h:n≠0):bf n=((n % 1048576:Nat):Int)::bf (n / 1048576):=by rw[bf,dif_neg h]
theorem sZ {n:Nat} : bf n=[]↔n=0:=by
 constructor
 ·intro h
  rcases af9 n with h0|h0
  ·exact h0
  ·rw[me (by omega)]at h;cases h
 ·rintro rfl;exact cR
theorem bY:∀n:Nat,dv (bf n)=n:=by
 intro n
 induction n using Nat.strongRecOn with
 | _ n ih =>
  rcases af9 n with h0|h0
  ·subst h0;rw[cR];rfl
  ·rw[me (by omega),dv,ih (n / 1048576) (by omega)]
   omega
theorem dR:∀n:Nat,Dg (bf n):=by
 intro n
 induction n using Nat.strongRecOn with
 | _ n ih =>
  rcases af9 n with h0|h0
  ·subst h0;rw[cR];intro d hd;cases hd
  ·rw[me (by omega)]
   intro d hd
   rcases afY.1 hd with rfl|hd
   ·omega
   ·exact ih (n / 1048576) (by omega) d hd
theorem Dg.nil:Dg []:=fun d hd=>by cases hd
theorem Dg.cons {d:Int} {l:List Int} (h:Dg (d::l)):(0<=d∧d<1048576)∧Dg l:=⟨h d aho,fun x hx=>h x (ahp _ hx)⟩
theorem Dg.mk {d:Int} {l:List Int} (h:0<=d∧d<1048576) (hl:Dg l):Dg (d::l):=fun x hx=>by
 rcases afY.1 hx with rfl|hx
 ·exact h
 ·exact hl x hx
theorem Dg.append {l m:List Int} (h:Dg l) (hm:Dg m):Dg (l++m):=fun x hx=>(ag7.1 hx).elim (h x) (hm x)
theorem Dg.take {l:List Int} (h:Dg l) (n:Nat):Dg (l.take n):=fun x hx=>h x (agC hx)
theorem Dg.drop {l:List Int} (h:Dg l) (n:Nat):Dg (l.drop n):=fun x hx=>h x (agA hx)
theorem Dg.rep (n:Nat):Dg (List.replicate n 0):=fun x hx=>by rw[(List.mem_replicate.1 hx).2];omega
theorem Dg.set {l:List Int} (h:Dg l) (i:Nat) {x:Int} (hx:0<=x∧x<1048576):Dg (l.set i x):=fun y hy=>by
 rcases List.mem_or_eq_of_mem_set hy with hy|rfl
 ·exact h y hy
 ·exact hx
theorem Dg.get {l:List Int} (h:Dg l) {i:Nat} (hi:i<l.length):0<=l[i]∧l[i]<1048576:=h _ (af3 hi)
theorem cT:∀ {l:List Int},Dg l->0<=dv l
 | [],_=>Int.le_refl _
 | d::l,h=>by
  have h1:=h.cons
  have:=cT h1.2
  simp only[dv]
  omega
theorem oP:∀ {l:List Int},Dg l->dv l<pw l.length
 | [],_=>by simp[dv,rG]
 | d::l,h=>by
  have h1:=h.cons
  have:=oP h1.2
  simp only[dv,List.length_cons,lV]
  omega
theorem iU:∀l m:List Int,dv (l++m)=dv l+pw l.length*dv m
 | [],m=>by simp[dv,rG]
 | d::l,m=>by
  rw[ahJ,dv,dv,iU l m,agi,lV,ah0,ah1]
  omega
theorem CH:∀n:Nat,dv (List.replicate n 0)=0
 | 0=>rfl
 | n+1=>by rw[agM,dv,CH n];rfl
theorem iV {l:List Int} {i:Nat} (h:i<l.length):dv (l.take (i+1))=dv (l.take i)+pw i*l[i]:=by
 have e:l.take (i+1)=l.take i++[l[i]]:=by rw[List.take_add_one];simp[h]
 rw[e,iU,aga,ag4 (by omega)]
 simp[dv]
theorem iG (l:List Int) {i:Nat} (h:i<=l.length):dv l=dv (l.take i)+pw i*dv (l.drop i):=by
 have:=iU (l.take i) (l.drop i)
 rw[ahG,aga,ag4 h]at this
 exact this
theorem s7 {l:List Int} {i:Nat} (h:i<l.length) (x:Int):dv (l.set i x)=dv l+pw i*(x-l[i]):=by
 induction l generalizing i with
 | nil=>simp at h
 | cons d l ih =>
  cases i with
  | zero=>simp only[List.set_cons_zero,dv,rG,List.getElem_cons_zero];omega
  | succ i =>
   have:=ih (i:=i) (by simpa using h)
   simp only[List.set_cons_succ,dv,this,lV,List.getElem_cons_succ,ah0,ah1]
   omega
theorem BA:∀ {l:List Int},Dg l->(∀h:l≠[],l.getLast h≠0)->bf (dv l).toNat=l
 | [],_,_=>by simp[dv,cR]
 | d::l,h,hl=>by
  have h1:=h.cons
  have h2:=cT h1.2
  have hne:(dv (d::l)).toNat≠0:=by
   simp only[dv]
   intro h0
   have hd:d=0:=by omega
   have hv:dv l=0:=by omega
   cases l with
   | nil=>exact hl (by simp) (by simpa using hd)
   | cons e m =>
    have ih:=BA h1.2 (fun hh=>by have:=hl (by simp);simpa using this)
    rw[hv]at ih
    simp[cR]at ih
  rw[me hne]
  have e1:(dv (d::l)).toNat % 1048576=d.toNat:=by simp only[dv];omega
  have e2:(dv (d::l)).toNat / 1048576=(dv l).toNat:=by simp only[dv];omega
  rw[e1,e2]
  have hd:(d.toNat:Int)=d:=by omega
  rw[hd]
  cases l with
  | nil=>simp[dv,cR]
  | cons e m=>rw[BA h1.2 (fun hh=>by have:=hl (by simp);simpa using this)]
theorem UU:∀(n:Nat) (h:bf n≠[]),(bf n).getLast h≠0:=by
 intro n
 induction n using Nat.strongRecOn with
 | _ n ih =>
  intro h
  have hn:n≠0:=fun h0=>h (sZ.2 h0)
  have e:=me hn
  by_cases hq:n / 1048576=0
  ·have:bf n=[((n % 1048576:Nat):Int)]:=by rw[e,hq,cR]
   simp only[this,List.getLast_singleton]
   omega
  ·have hne:bf (n / 1048576)≠[]:=fun h0=>hq (sZ.1 h0)
   have:=ih (n / 1048576) (by omega) hne
   simp only[e]
   rw[List.getLast_cons hne]
   exact this
theorem Xj {a b:Nat} (h:bf a=bf b):a=b:=by
 have:=congrArg dv h
 rw[bY,bY]at this
 omega
theorem ko {n k:Nat} (h:(n:Int)<pw k):(bf n).length<=k:=by
 induction k generalizing n with
 | zero =>
  rw[rG]at h
  have:n=0:=by omega
  rw[this,cR];simp
 | succ k ih =>
  by_cases h0:n=0
  ·rw[h0,cR];simp
  ·rw[me h0,agi]
   rw[lV]at h
   have:=ih (n:=n / 1048576) (by omega)
   omega
theorem iM (n:Nat):(n:Int)<pw (bf n).length:=by
 have:=oP (dR n)
 rwa [bY]at this
theorem xj {n:Nat} (h:n≠0):pw ((bf n).length-1)<=n∧0<(bf n).length:=by
 induction n using Nat.strongRecOn with
 | _ n ih =>
  rw[me h,agi]
  refine⟨?_,by omega⟩
  by_cases hq:n / 1048576=0
  ·rw[hq,cR];simp[rG];omega
  ·obtain⟨h1,h2⟩:=ih (n / 1048576) (by omega) hq
   have:(bf (n / 1048576)).length+1-1=((bf (n / 1048576)).length-1)+1:=by omega
   rw[this,lV]
   omega
theorem sN {x:Int} (h1 : -9223372036854775808<=x) (h2:x<9223372036854775808):gn .and .i64 x 1048575=x % 1048576:=by
 unfold gn
 simp only
 have e1:(BitVec.ofInt IntKind.i64.bits x &&& BitVec.ofInt IntKind.i64.bits 1048575).toNat=((x % 18446744073709551616).toNat) % 1048576:=by
  rw[BitVec.toNat_and,BitVec.toNat_ofInt,BitVec.toNat_ofInt]
  have e:((1048575:Int) % ((2 ^ IntKind.i64.bits:Nat):Int)).toNat=2 ^ 20-1:=by decide
  rw[e,ah2]
  rfl
 rw[e1,wrap64 (by omega) (by omega)]
 omega
theorem aak {x:Int} (h1 : -9223372036854775808<=x) (h2:x<9223372036854775808):gn .and .i64 x 1=x % 2:=by
 unfold gn
 simp only
 have e1:(BitVec.ofInt IntKind.i64.bits x &&& BitVec.ofInt IntKind.i64.bits 1).toNat=((x % 18446744073709551616).toNat) % 2:=by
  rw[BitVec.toNat_and,BitVec.toNat_ofInt,BitVec.toNat_ofInt]
  have e:((1:Int) % ((2 ^ IntKind.i64.bits:Nat):Int)).toNat=2 ^ 1-1:=by decide
  rw[e,ah2]
  rfl
 rw[e1,wrap64 (by omega) (by omega)]
 omega
theorem O6 (x:Int):sA .i64 x 20=some (x / 1048576):=by
 unfold sA
 rw[zzn (by decide)]
 have e:(2:Int) ^ (min (Int.toNat 20) IntKind.i64.bits)=1048576:=by decide
 rw[e,Int.fdiv_eq_ediv_of_nonneg _ (by decide)]
theorem YW {x:Int} (h0:0<=x) (h:x<8796093022208):FT .i64 x 20=some (1048576*x):=by
 unfold FT
 rw[zzn (by decide)]
 have e:(2:Int) ^ (min (Int.toNat 20) IntKind.i64.bits)=1048576:=by decide
 rw[e,wrap64 (by omega) (by omega),ahX]
theorem Rg {x y:Int} (h0:0<=x) (h:x<8796093022208) (hy:0<=y∧y<1048576):gn .or .i64 (1048576*x) y=1048576*x+y:=by
 unfold gn
 simp only
 have e1:(BitVec.ofInt IntKind.i64.bits (1048576*x) ||| BitVec.ofInt IntKind.i64.bits y).toNat=1048576*x.toNat+y.toNat:=by
  rw[BitVec.toNat_or,BitVec.toNat_ofInt,BitVec.toNat_ofInt]
  have e:((2 ^ IntKind.i64.bits:Nat):Int)=18446744073709551616:=by decide
  rw[e]
  have e2:((1048576*x) % 18446744073709551616).toNat=x.toNat <<< 20:=by rw[Nat.shiftLeft_eq];omega
  have e3:(y % 18446744073709551616).toNat=y.toNat:=by omega
  rw[e2,e3,<- Nat.shiftLeft_add_eq_or_of_lt (by omega),Nat.shiftLeft_eq]
  omega
 rw[e1,wrap64 (by omega) (by omega)]
 omega
theorem mk0 {n:Nat} (h:n<=17592186044416):FJ 8 (n:Int) (n:Int) (0:Int)=some (List.replicate n 0):=by
 unfold FJ
 rw[zzp]
 ·simp
 ·have:(17592186044416:Int)<=maxLen:=by decide
  refine⟨by omega,by omega,by omega,?_⟩
  simp only[Int.toNat_natCast]
  omega
theorem K0 {l m:List Int} (h:l.length+m.length<=17592186044416):lu 8 l m=some (l++m):=by
 unfold lu
 have:(17592186044416:Nat)<=maxLen:=by decide
 rw[zzp ⟨by omega,by omega⟩]
theorem ez {σ ρ:Type} {body:σ->Option (σ⊕ρ)} (I:Nat->σ->Prop) (n:Nat) (Q:ρ->Prop) {s:σ} (hI:I 0 s) (hn:n+1<FU)
  (hstep:∀i s,i<=n->I i s->(i<n∧∃s',body s=some (.inl s')∧I (i+1) s')∨(∃r,body s=some (.inr r)∧Q r)):∃r,bc body s=some r∧Q r:=by
 have key:∀(k i:Nat) (s:σ),i<=n->n-i<k->I i s->∃r,mL body k s=some r∧Q r:=by
  intro k
  induction k with
  | zero=>intro i s _ h;omega
  | succ k ih =>
   intro i s hi hk hI
   rcases hstep i s hi hI with⟨hlt,s',h1,h2⟩|⟨r,h1,h2⟩
   ·obtain⟨r,h3,h4⟩:=ih (i+1) s' (by omega) (by omega) h2
    exact⟨r,by simp only[mL,h1];exact h3,h4⟩
   ·exact⟨r,by simp only[mL,h1],h2⟩
 exact key FU 0 s (afS _) (by omega) hI
theorem aaU (i:Nat) (x:Int):pw (i+1)*x=pw i*(1048576*x):=by rw[lV,ahX 1048576 (pw i),ah1]
theorem zm (i:Nat) (t:Int):pw i*(t % 1048576)+pw (i+1)*(t / 1048576)=pw i*t:=by
 rw[aaU,<- ah0]
 congr 1
 omega
theorem mM {n:Nat} (h:n<=17592186044416):n+1<FU:=by unfold FU;omega
abbrev Fit (l:List Int):Prop:=l.length<=17592186044416
theorem jX {x:Int} (h : -4611686018427387904<=x∧x<=4611686018427387904):IntKind.i64.wrap x=x:=wrap64 (by omega) (by omega)
theorem tG {α:Type} (o:Option α):(o.bind fun r=>some r)=o:=by cases o<;>rfl
theorem V8 {l:List Int} (hl:Fit l):∃r,bc (ma l) (l.length:Int)=some r∧∃k:Nat,r=k∧k<=l.length∧(∀j (hj:j<l.length),k<=j->l[j]=0)∧(∀h:0<k,∀hk:k-1<l.length,l[k-1]≠0):=by
 unfold Fit at hl
 refine ez (I:=fun i s=>s=((l.length-i:Nat):Int)∧(∀j (hj:j<l.length),l.length-i<=j->l[j]=0)) l.length _ ⟨rfl,fun j hj h=>by omega⟩ (mM hl) ?_
 rintro i s hi ⟨rfl,hz⟩
 generalize hk:l.length-i=k at *
 simp only[ma]
 by_cases h0:0<k
 ·have hk1:k-1<l.length:=by omega
  have e:IntKind.i64.wrap ((k:Int)-1)=((k-1:Nat):Int):=by rw[jX (by omega)];omega
  rw[zzp (by simp;omega),e,cN hk1,ahr]
  by_cases hx:l[k-1]=0
  ·left
   refine⟨by omega,_,by rw[zzp (by simpa using hx)],by rw[show l.length-(i+1)=k-1 by omega],fun j hj h =>?_⟩
   by_cases hj':j=k-1
   ·subst hj';exact hx
   ·exact hz j hj (by omega)
  ·right
   exact⟨_,by rw[zzn (by simpa using hx)],k,rfl,by omega,hz,fun _ _=>hx⟩
 ·right
  exact⟨_,by rw[zzn (by simp;omega)],k,rfl,by omega,hz,fun h=>absurd h h0⟩
theorem XA {l:List Int} {k:Nat} (hz:∀j (hj:j<l.length),k<=j->l[j]=0):dv (l.drop k)=0:=by
 have:l.drop k=List.replicate (l.drop k).length 0:=by
  refine List.eq_replicate_of_mem fun x hx =>?_
  obtain⟨i,hi,rfl⟩:=List.mem_iff_getElem.1 hx
  rw[List.getElem_drop]
  exact hz _ _ (by omega)
 rw[this,CH]
theorem yH {l:List Int} (hl:Fit l) (hd:Dg l):dN l=some (bf (dv l).toNat):=by
 obtain⟨r,h1,k,rfl,hk,hz,hlast⟩:=V8 hl
 unfold dN
 rw[h1,ahr,aaY hk,ahr]
 congr 1
 have h2:dv l=dv (l.take k):=by rw[iG l hk,XA hz];omega
 rw[h2]
 refine (BA (hd.take k) fun hne =>?_).symm
 have hk0:0<k:=by
  rcases af9 k with h|h
  ·subst h;simp at hne
  ·exact h
 have:=hlast hk0 (by omega)
 rw[List.getLast_eq_getElem]
 simp only[aga,List.getElem_take,ag4 hk]
 exact this
theorem BL {l:List Int} {n:Nat} (hl:Fit l) (hd:Dg l) (hn:dv l=n):dN l=some (bf n):=by
 rw[yH hl hd,hn];rfl
def gd (l:List Int) (i:Nat):Int:=if h:i<l.length then l[i] else 0
theorem Tb {l:List Int} (h:Dg l) (i:Nat):0<=gd l i∧gd l i<1048576:=by
 unfold gd
 split
 ·exact h.get _
 ·omega
theorem xJ {l:List Int} (i:Nat):dv (l.take (i+1))=dv (l.take i)+pw i*gd l i:=by
 unfold gd
 split
 ·exact iV _
 ·rw[ahi (by omega),ahi (by omega)];simp
theorem C9 {l:List Int} {i:Nat} (h:l.length<=i):dv (l.take i)=dv l:=by rw[ahi h]
theorem WB {a b:List Int} (ha:Dg a) (hb:Dg b) (hf:a.length<17592186044416) (hab:b.length<=a.length) :
  ∃r,bc (nO a b) (0,0,List.replicate (a.length+1) 0)=some r∧r.2.length=a.length+1∧Dg r.2∧(∀j (hj:j<r.2.length),a.length<=j->r.2[j]=0)∧(0<=r.1∧r.1<=1)∧dv r.2+pw a.length*r.1=dv a+dv b:=by
 refine ez (I:=fun i s=>s.2.1=(i:Int)∧s.2.2.length=a.length+1∧Dg s.2.2∧(∀j (hj:j<s.2.2.length),i<=j->s.2.2[j]=0)∧(0<=s.1∧s.1<=1)∧dv s.2.2+pw i*s.1=dv (a.take i)+dv (b.take i))
  a.length _ ⟨rfl,by simp,Dg.rep _,fun j hj _=>by simp,by simp,by simp[CH,dv]⟩ (mM (by omega)) ?_
 rintro i ⟨c,s,l⟩ hi ⟨h1,hl,hd,hz,hc,he⟩
 simp only at h1 hl hd hz hc he
 subst h1
 simp only[nO]
 by_cases hlt:i<a.length
 ·left
  rw[zzp (by simpa using hlt),cN hlt,ahr]
  have ga:=ha.get hlt
  have gb:=Tb hb i
  have hT:(if decide ((i:Int)<(b.length:Int))=true then (P.idx b (i:Int)).bind fun x22=>some (IntKind.i64.wrap ((IntKind.i64.wrap (c+a[i]))+x22)) else some (IntKind.i64.wrap (c+a[i])))=some (c+a[i]+gd b i):=by
   by_cases hib:i<b.length
   ·rw[zzp (by simpa using hib),cN hib,ahr]
    have:gd b i=b[i]:=by unfold gd;rw[dif_pos hib]
    rw[this]at gb ⊢
    rw[jX (x:=c+a[i]) (by omega),jX (by omega)]
   ·rw[zzn (by simpa using hib)]
    have:gd b i=0:=by unfold gd;rw[dif_neg hib]
    rw[this,jX (by omega)];simp
  rw[hT,ahr,cN (by omega),ahr,O6,ahr,sN (by omega) (by omega)]
  have hli:l[i]=0:=hz i (by omega) (afR _)
  have e1:IntKind.i64.wrap ((i:Int)+1)=((i+1:Nat):Int):=by rw[jX (by omega)];omega
  refine⟨hlt,_,rfl,e1,by simpa using hl,hd.set _ (by omega),fun j hj hij =>?_,by simp only;omega,?_⟩
  ·simp only[Int.toNat_natCast]at hj ⊢
   rw[ah3 (by omega)]
   exact hz j (by simpa using hj) (by omega)
  ·simp only[Int.toNat_natCast]
   rw[s7 (by omega),hli,xJ,xJ]
   have hga:gd a i=a[i]:=by unfold gd;rw[dif_pos hlt]
   rw[hga]
   have hp:=zm i (c+a[i]+gd b i)
   rw[ah0,ah0]at hp
   rw[Int.sub_zero]
   omega
 ·right
  have hia:i=a.length:=by omega
  subst hia
  refine⟨_,by rw[zzn (by simp)],hl,hd,fun j hj h=>hz j hj h,hc,?_⟩
  rw[he,C9 (afR _),C9 hab]
theorem add_eq {a b:List Int} (ha:Dg a) (hb:Dg b) (hfa:a.length<17592186044416) (hfb:b.length<17592186044416):oM a b=some (bf (dv a+dv b).toNat):=by
 have main:∀ {a b:List Int},Dg a->Dg b->a.length<17592186044416->b.length<=a.length ->
   ((FJ 8 (IntKind.i64.wrap ((a.length:Int)+1)) (IntKind.i64.wrap ((a.length:Int)+1)) 0).bind fun x2 =>
    (bc (nO a b) (0,0,x2)).bind fun q=>match q with
    | (s6bx,l5bx) =>
     (P.idx l5bx (a.length:Int)).bind fun x23 =>
     (dN (l5bx.set ((a.length:Int)).toNat s6bx)).bind fun r26 =>
     some r26)=some (bf (dv a+dv b).toNat):=by
  intro a b ha hb hfa hab
  have e:IntKind.i64.wrap ((a.length:Int)+1)=((a.length+1:Nat):Int):=by rw[jX (by omega)];omega
  rw[e,mk0 (by omega),ahr]
  obtain⟨⟨c,l⟩,h1,h2,h3,h4,h5,h6⟩:=WB ha hb hfa hab
  rw[h1]
  simp only[Option.bind_some]at h2 h3 h4 h5 h6 ⊢
  have hlt:a.length<l.length:=by omega
  rw[cN hlt,ahr,agR,tG]
  have hv:dv (l.set a.length c)=dv a+dv b:=by
   rw[s7 hlt,h4 _ hlt (afR _),Int.sub_zero,h6]
  rw[yH (by simp[Fit];omega) (h3.set _ (by omega)),hv]
 unfold oM
 by_cases h:a.length<b.length
 ·rw[zzp (by simpa using h),ahr,Int.add_comm]
  exact main hb ha hfb (by omega)
 ·rw[zzn (by simpa using h),ahr]
  exact main ha hb hfa (by omega)
theorem sV {l:List Int} (h:Fit l):bH l=some l:=by
 unfold bH
 rw[K0 (by simpa using h),ahA]
theorem XV {l:List Int} {i:Nat} (h:i<l.length):gd l i=l[i]:=by unfold gd;rw[dif_pos h]
theorem XU {l:List Int} {i:Nat} (h:l.length<=i):gd l i=0:=by unfold gd;rw[dif_neg (by omega)]
theorem Zn {a b:List Int} (ha:Dg a) (hb:Dg b) (hf:Fit a) (hab:b.length<=a.length) (hle:dv b<=dv a) :
  ∃l,bc (qQ b a) (0,0,a)=some l∧l.length=a.length∧Dg l∧dv l=dv a-dv b:=by
 unfold Fit at hf
 refine ez (I:=fun i s=>s.2.1=(i:Int)∧s.2.2.length=a.length∧Dg s.2.2∧(∀j (hj:j<s.2.2.length) (hj':j<a.length),i<=j->s.2.2[j]=a[j])∧(0<=s.1∧s.1<=1)∧dv s.2.2+dv (b.take i)=dv a+pw i*s.1)
  a.length _ ⟨rfl,rfl,ha,fun j hj _ _=>rfl,by simp,by simp[dv]⟩ (mM (by omega)) ?_
 rintro i ⟨c,s,l⟩ hi ⟨h1,hl,hd,hz,hc,he⟩
 simp only at h1 hl hd hz hc he
 subst h1
 simp only[qQ]
 by_cases hlt:i<a.length
 ·left
  have hli:i<l.length:=by omega
  rw[zzp (by simpa using hlt),cN hli,ahr,hz i hli hlt (afR _)]
  have ga:=ha.get hlt
  have gb:=Tb hb i
  have hT:(if decide ((i:Int)<(b.length:Int))=true then (P.idx b (i:Int)).bind fun x18=>some (IntKind.i64.wrap ((IntKind.i64.wrap (a[i]-c))-x18)) else some (IntKind.i64.wrap (a[i]-c)))=some (a[i]-c-gd b i):=by
   by_cases hib:i<b.length
   ·rw[zzp (by simpa using hib),cN hib,ahr]
    rw[XV hib]at gb ⊢
    rw[jX (x:=a[i]-c) (by omega),jX (by omega)]
   ·rw[zzn (by simpa using hib),XU (by omega),jX (by omega)];simp
  rw[hT,ahr,O6,ahr,sN (by omega) (by omega),aak (by omega) (by omega)]
  have e1:IntKind.i64.wrap ((i:Int)+1)=((i+1:Nat):Int):=by rw[jX (by omega)];omega
  refine⟨hlt,_,rfl,e1,by simpa using hl,hd.set _ (by omega),fun j hj hj' hij =>?_,by simp only;omega,?_⟩
  ·simp only[Int.toNat_natCast]at hj ⊢
   rw[ah3 (by omega)]
   exact hz j (by simpa using hj) hj' (by omega)
  ·simp only[Int.toNat_natCast]
   rw[s7 hli,hz i hli hlt (afR _),xJ]
   have hp:=zm i (a[i]-c-gd b i)
   have hb2:(a[i]-c-gd b i) / 1048576 % 2 = - ((a[i]-c-gd b i) / 1048576):=by omega
   rw[hb2,Int.mul_neg]
   rw[ah4,ah4]at hp
   rw[ah4]
   omega
 ·right
  have hia:i=a.length:=by omega
  subst hia
  refine⟨l,by rw[zzn (by simp)],hl,hd,?_⟩
  rw[C9 hab]at he
  have h1:=oP hd
  rw[hl]at h1
  have hc0:c=0:=by
   rcases (show c=0∨c=1 by omega) with h|h
   ·exact h
   ·subst h;omega
  subst hc0
  omega
theorem sub_eq {a b:List Int} (ha:Dg a) (hb:Dg b) (hf:Fit a) (hab:b.length<=a.length) (hle:dv b<=dv a):mV a b=some (bf (dv a-dv b).toNat):=by
 obtain⟨l,h1,h2,h3,h4⟩:=Zn ha hb hf hab hle
 unfold mV
 rw[sV hf,ahr,h1,ahr,tG,yH (by unfold Fit at *;omega) h3,h4]
theorem lM {l:List Int} {i:Nat} (h:i<l.length):dv (l.drop i)=l[i]+1048576*dv (l.drop (i+1)):=by
 rw[ahM h,dv]
theorem adw {x d:Int} (h:0<=x) (hd:0<d) (hx:x<4611686018427387904):Ct .i64 x d=some (x / d):=by
 unfold Ct
 rw[zzn (by omega),Int.tdiv_eq_ediv_of_nonneg h,jX]
 have:=ah5 h (Int.le_of_lt hd)
 have:=Int.ediv_le_self d h
 omega
theorem adK {x d:Int} (h:0<=x) (hd:0<d):J9 .i64 x d=some (x % d):=by
 unfold J9
 rw[zzn (by omega),Int.tmod_eq_emod_of_nonneg h]
theorem Ro {a:List Int} {d:Int} (ha:Dg a) (hd:0<d∧d<=1048576) (hf:Fit a) :
  ∃r,bc (mU a d) (0,IntKind.i64.wrap ((a.length:Int)-1),List.replicate a.length 0)=some r∧r.2.length=a.length∧Dg r.2∧(0<=r.1∧r.1<d)∧dv a=d*dv r.2+r.1:=by
 unfold Fit at hf
 have e0:IntKind.i64.wrap ((a.length:Int)-1)=(a.length:Int)-1:=jX (by omega)
 rw[e0]
 refine ez (I:=fun i s=>s.2.1=((a.length-i:Nat):Int)-1∧s.2.2.length=a.length∧Dg s.2.2∧(0<=s.1∧s.1<d)∧dv (a.drop (a.length-i))=d*dv (s.2.2.drop (a.length-i))+s.1)
  a.length _ ⟨rfl,by simp,Dg.rep _,by simp;omega,by simp[dv]⟩ (mM (by omega)) ?_
 rintro i ⟨r,s,l⟩ hi ⟨h1,hl,hg,hr,he⟩
 simp only at h1 hl hg hr he
 subst h1
 generalize hk:a.length-i=k at *
 simp only[mU]
 by_cases h0:0<k
 ·left
  have hk1:k-1<a.length:=by omega
  have hk2:k-1<l.length:=by omega
  have ek:((k:Int)-1)=((k-1:Nat):Int):=by omega
  have ga:=ha.get hk1
  rw[ek,zzp (by simp),YW (by omega) (by omega),ahr,cN hk1,ahr,Rg (by omega) (by omega) ga,adw (by omega) hd.1 (by omega),ahr,cN hk2,ahr,adK (by omega) hd.1,ahr]
  have e1:IntKind.i64.wrap (((k-1:Nat):Int)-1)=((k-1:Nat):Int)-1:=jX (by omega)
  have hx0:0<=1048576*r+a[k-1]:=by omega
  have hq0:0<=(1048576*r+a[k-1]) / d:=ah5 hx0 (by omega)
  have hq1:(1048576*r+a[k-1]) / d<1048576:=by
   apply ah6 hd.1
   have:1048576*r<=1048576*(d-1):=ahZ (by omega) (by omega)
   omega
  have hm0:=Int.emod_nonneg (1048576*r+a[k-1]) (show d≠0 by omega)
  have hm1:=ah7 (1048576*r+a[k-1]) hd.1
  refine⟨by omega,_,rfl,by rw[e1,show a.length-(i+1)=k-1 by omega],by simpa using hl,hg.set _ ⟨hq0,hq1⟩,⟨hm0,hm1⟩,?_⟩
  simp only[Int.toNat_natCast]
  rw[show a.length-(i+1)=k-1 by omega,lM hk1,lM (l:=l.set (k-1) _) (i:=k-1) (by simpa using hk2),show k-1+1=k by omega,List.getElem_set_self,List.drop_set_of_lt (by omega),he]
  have:=ah8 (1048576*r+a[k-1]) d
  rw[ah0,ah0]
  have e3:d*(1048576*dv (l.drop k))=1048576*(d*dv (l.drop k)):=by rw[<- ah1,ahX d,ah1]
  rw[e3]
  omega
 ·right
  have:k=0:=by omega
  subst this
  refine⟨(r,l),by rw[zzn (by simp)],hl,hg,hr,?_⟩
  simpa using he
theorem O5 {a:List Int} {d:Int} (ha:Dg a) (hd:0<d∧d<=1048576) (hf:Fit a):kn a d=some (bf (dv a / d).toNat,dv a % d):=by
 obtain⟨⟨r,l⟩,h1,h2,h3,h4,h5⟩:=Ro ha hd hf
 unfold kn
 rw[mk0 hf,ahr,h1,ahr]
 simp only at h2 h3 h4 h5 ⊢
 rw[yH (by unfold Fit at *;omega) h3,ahr]
 have e1:dv a / d=dv l:=by
  rw[h5,ahX,Int.add_comm,Int.add_mul_ediv_right _ _ (by omega),Int.ediv_eq_zero_of_lt h4.1 h4.2];omega
 have e2:dv a % d=r:=by
  rw[h5,ahX,Int.add_comm,Int.add_mul_emod_self_right]
  exact Int.emod_eq_of_lt h4.1 h4.2
 rw[e1,e2]
theorem VS {b l0:List Int} {x:Int} {i n:Nat} (hb:Dg b) (hx:0<=x∧x<1048576) (h0:Dg l0) (hn:l0.length=n) (hi:i+b.length<n) (hf:n<=17592186044416) (hz:∀j (hj:j<l0.length),i+b.length<=j->l0[j]=0) :
  ∃r,bc (qP b (i:Int) x) (0,0,l0)=some r∧r.2.length=n∧Dg r.2∧(0<=r.1∧r.1<1048576)∧(∀j (hj:j<r.2.length),i+b.length<=j->r.2[j]=0)∧dv r.2+pw (i+b.length)*r.1=dv l0+pw i*(x*dv b):=by
 refine ez (I:=fun k s=>s.2.1=(k:Int)∧s.2.2.length=n∧Dg s.2.2∧(0<=s.1∧s.1<1048576)∧(∀j (hj:j<s.2.2.length),i+b.length<=j->s.2.2[j]=0)∧dv s.2.2+pw (i+k)*s.1=dv l0+pw i*(x*dv (b.take k)))
  b.length _ ⟨rfl,hn,h0,by simp,hz,by simp[dv]⟩ (mM (by omega)) ?_
 rintro k ⟨c,s,l⟩ hk ⟨h1,hl,hd,hc,hz,he⟩
 simp only at h1 hl hd hc hz he
 subst h1
 simp only[qP]
 by_cases hlt:k<b.length
 ·left
  have hik:i+k<l.length:=by omega
  have ei:IntKind.i64.wrap ((i:Int)+(k:Int))=((i+k:Nat):Int):=by rw[jX (by omega)];omega
  have gb:=hb.get hlt
  have gl:=hd.get hik
  have hm0:0<=x*b[k]:=ah9 hx.1 gb.1
  have hm1:x*b[k]<=1048575*1048575:=Int.mul_le_mul (by omega) (by omega) gb.1 (by omega)
  rw[zzp (by simpa using hlt),cN hlt,ahr,ei,cN hik,ahr,jX (x:=x*b[k]) (by omega),jX (x:=l[i+k]+x*b[k]) (by omega),jX (x:=l[i+k]+x*b[k]+c) (by omega),O6,ahr,sN (by omega) (by omega)]
  have e1:IntKind.i64.wrap ((k:Int)+1)=((k+1:Nat):Int):=by rw[jX (by omega)];omega
  refine⟨hlt,_,rfl,e1,by simpa using hl,hd.set _ (by omega),by simp only;omega,fun j hj hij =>?_,?_⟩
  ·simp only[Int.toNat_natCast]at hj ⊢
   rw[ah3 (by omega)]
   exact hz j (by simpa using hj) hij
  ·simp only[Int.toNat_natCast]
   rw[s7 hik,iV hlt]
   have hp:=zm (i+k) (l[i+k]+x*b[k]+c)
   rw[ah0 (pw (i+k)),ah0 (pw (i+k))]at hp
   have e2:pw i*(x*(dv (b.take k)+pw k*b[k]))=pw i*(x*dv (b.take k))+pw (i+k)*(x*b[k]):=by
    rw[ah0,ah0,Kq]
    congr 1
    rw[aia x,<- ah1]
   rw[e2,ah4,show i+(k+1)=i+k+1 by omega]
   omega
 ·right
  have hkb:k=b.length:=by omega
  subst hkb
  refine⟨(c,l),by rw[zzn (by simp)],hl,hd,hc,hz,?_⟩
  rw[he,ahS]
theorem VR {a b:List Int} (ha:Dg a) (hb:Dg b) (hf:a.length+b.length<=17592186044416) :
  ∃l,bc (qO a b) (0,List.replicate (a.length+b.length) 0)=some l∧l.length=a.length+b.length∧Dg l∧dv l=dv a*dv b:=by
 refine ez (I:=fun i s=>s.1=(i:Int)∧s.2.length=a.length+b.length∧Dg s.2∧(∀j (hj:j<s.2.length),i+b.length<=j->s.2[j]=0)∧dv s.2=dv (a.take i)*dv b)
  a.length _ ⟨rfl,by simp,Dg.rep _,fun j hj _=>by simp,by simp[dv,CH]⟩ (mM (by omega)) ?_
 rintro i ⟨s,l⟩ hi ⟨h1,hl,hd,hz,he⟩
 simp only at h1 hl hd hz he
 subst h1
 simp only[qO]
 by_cases hlt:i<a.length
 ·left
  have ga:=ha.get hlt
  obtain⟨⟨c,m⟩,g1,g2,g3,g4,g5,g6⟩:=VS (i:=i) (n:=a.length+b.length) hb ga hd hl (by omega) hf hz
  rw[zzp (by simpa using hlt),cN hlt,ahr,g1,ahr]
  simp only at g2 g3 g4 g5 g6 ⊢
  have ei:IntKind.i64.wrap ((i:Int)+(b.length:Int))=((i+b.length:Nat):Int):=by rw[jX (by omega)];omega
  have hib:i+b.length<m.length:=by omega
  rw[ei,cN hib,ahr,g5 _ hib (afR _),Int.zero_add,jX (x:=c) (by omega)]
  have e1:IntKind.i64.wrap ((i:Int)+1)=((i+1:Nat):Int):=by rw[jX (by omega)];omega
  refine⟨hlt,_,rfl,e1,by simpa using g2,g3.set _ g4,fun j hj hij =>?_,?_⟩
  ·simp only[Int.toNat_natCast]at hj ⊢
   rw[ah3 (by omega)]
   exact g5 j (by simpa using hj) (by omega)
  ·simp only[Int.toNat_natCast]
   rw[s7 hib,g5 _ hib (afR _),Int.sub_zero,g6,he,iV hlt,aib,ah1]
 ·right
  have hia:i=a.length:=by omega
  subst hia
  refine⟨l,by rw[zzn (by simp)],hl,hd,?_⟩
  rw[he,ahS]
theorem mul_eq {a b:List Int} (ha:Dg a) (hb:Dg b) (hf:a.length+b.length<=17592186044416):mT a b=some (bf (dv a*dv b).toNat):=by
 obtain⟨l,h1,h2,h3,h4⟩:=VR ha hb hf
 unfold mT
 have e:IntKind.i64.wrap ((a.length:Int)+(b.length:Int))=((a.length+b.length:Nat):Int):=by rw[jX (by omega)];omega
 rw[e,mk0 hf,ahr,h1,ahr,tG,yH (by unfold Fit;omega) h3,h4]
def su (x y:Int):Int:=if x<y then -1 else if y<x then 1 else 0
theorem Jt (x y:Int):eQ x y=some (su x y):=by
 unfold eQ lv su
 simp only[bne_self_eq_false,Option.bind_some,ags,if_false,decide_eq_true_eq]
 split
 ·rfl
 ·split<;>rfl
theorem LQ {a b:List Int} (ha:Dg a) (hb:Dg b) (hf:Fit a) (hl:a.length=b.length):eP a b=some (su (dv a) (dv b)):=by
 unfold Fit at hf
 unfold eP
 rw[zzn (by simp;omega)]
 have e0:IntKind.i64.wrap ((a.length:Int)-1)=(a.length:Int)-1:=jX (by omega)
 rw[e0]
 have key:∃r,bc (kL a b) ((a.length:Int)-1)=some r∧(match r with | .inl _=>su (dv a) (dv b)=0 | .inr x=>x=su (dv a) (dv b)):=by
  refine ez (I:=fun i s=>s=((a.length-i:Nat):Int)-1∧a.drop (a.length-i)=b.drop (a.length-i)) a.length _ ⟨rfl,?_⟩ (mM hf) ?_
  ·rw[ahD (by omega),ahD (by omega)]
  rintro i s hi ⟨rfl,he⟩
  generalize hk:a.length-i=k at *
  simp only[kL]
  by_cases h0:0<k
  ·have h1:k-1<a.length:=by omega
   have h2:k-1<b.length:=by omega
   have ek:((k:Int)-1)=((k-1:Nat):Int):=by omega
   rw[ek,zzp (by simp),cN h1,ahr,cN h2,ahr]
   by_cases hx:a[k-1]=b[k-1]
   ·left
    rw[zzn (by simpa using hx)]
    refine⟨by omega,_,rfl,by rw[jX (by omega)];omega,?_⟩
    rw[show a.length-(i+1)=k-1 by omega,ahM h1,ahM h2,hx,show k-1+1=k by omega,he]
   ·right
    rw[zzp (by simpa using hx),Jt,ahr]
    refine⟨_,rfl,?_⟩
    simp only
    have ea:=iG a (i:=k) (by omega)
    have eb:=iG b (i:=k) (by omega)
    have ta:=iV h1
    have tb:=iV h2
    rw[show k-1+1=k by omega]at ta tb
    have la:=oP (ha.take (k-1))
    have lb:=oP (hb.take (k-1))
    rw[aga,ag4 (by omega)]at la lb
    have na:=cT (ha.take (k-1))
    have nb:=cT (hb.take (k-1))
    have hp:=ox (k-1)
    rw[ta]at ea
    rw[tb]at eb
    rw[he]at ea
    unfold su
    rcases Int.lt_or_gt_of_ne hx with hlt|hlt
    ·have:pw (k-1)*a[k-1]+pw (k-1)<=pw (k-1)*b[k-1]:=by
      have:pw (k-1)*(a[k-1]+1)<=pw (k-1)*b[k-1]:=ahZ (by omega) (by omega)
      rwa [ah0,ahY]at this
     rw[zzp hlt,zzp (by omega)]
    ·have:pw (k-1)*b[k-1]+pw (k-1)<=pw (k-1)*a[k-1]:=by
      have:pw (k-1)*(b[k-1]+1)<=pw (k-1)*a[k-1]:=ahZ (by omega) (by omega)
      rwa [ah0,ahY]at this
     rw[zzn (by omega),zzp hlt,zzn (by omega),zzp (by omega)]
  ·right
   have:k=0:=by omega
   subst this
   refine⟨.inl (),by rw[zzn (by simp)],?_⟩
   simp only[ahj]at he
   simp[he,su]
 obtain⟨r,h1,h2⟩:=key
 rw[h1,ahr]
 cases r with
 | inl u=>simp only at h2 ⊢;rw[h2]
 | inr x=>simp only at h2 ⊢;rw[h2]
theorem sY {m n:Nat} (h:(bf m).length<(bf n).length):m<n:=by
 have h1:=iM m
 have hn:n≠0:=fun h0=>by subst h0;rw[cR]at h;simp at h
 have h2:=xj hn
 have h3:=rF (i:=(bf m).length) (j:=(bf n).length-1) (by omega)
 omega
theorem eL {m n:Nat} (h:m<=n):(bf m).length<=(bf n).length:=by
 rcases agD (bf n).length (bf m).length with h1|h1
 ·have:=sY h1;omega
 ·exact h1
theorem Cq {m n:Nat} (hm:Fit (bf m)) (hn:Fit (bf n)):eP (bf m) (bf n)=some (su m n):=by
 by_cases hl:(bf m).length=(bf n).length
 ·rw[LQ (dR m) (dR n) hm hl,bY,bY]
 ·unfold eP
  rw[zzp (by simp;omega),Jt,tG]
  unfold su
  rcases Nat.lt_or_gt_of_ne hl with h|h
  ·have:=sY h
   rw[zzp (by omega),zzp (by omega)]
  ·have:=sY h
   rw[zzn (by omega),zzp (by omega),zzn (by omega),zzp (by omega)]
theorem Kv {u v:List Int} {g:Int} (hu:Dg u) (hv:Dg v) (hg:0<=g∧g<=1048576) (hf:Fit u) (hl:v.length<=u.length) :
  ∃r,bc (jP u v g) (0,0,u)=some r∧r.2.length=u.length∧Dg r.2∧(0<=r.1∧r.1<=1048576)∧dv r.2+g*dv v=dv u+pw u.length*r.1:=by
 unfold Fit at hf
 refine ez (I:=fun i s=>s.2.1=(i:Int)∧s.2.2.length=u.length∧Dg s.2.2∧(∀j (hj:j<s.2.2.length) (hj':j<u.length),i<=j->s.2.2[j]=u[j])∧(0<=s.1∧s.1<=1048576)∧dv s.2.2+g*dv (v.take i)=dv u+pw i*s.1)
  u.length _ ⟨rfl,rfl,hu,fun j hj _ _=>rfl,by simp,by simp[dv]⟩ (mM (by omega)) ?_
 rintro i ⟨c,s,l⟩ hi ⟨h1,hll,hd,hz,hc,he⟩
 simp only at h1 hll hd hz hc he
 subst h1
 simp only[jP]
 by_cases hlt:i<u.length
 ·left
  have hli:i<l.length:=by omega
  rw[zzp (by simpa using hlt),cN hli,ahr,hz i hli hlt (afR _)]
  have ga:=hu.get hlt
  have gb:=Tb hv i
  have hm0:0<=g*gd v i:=ah9 hg.1 gb.1
  have hm1:g*gd v i<=1048576*1048575:=Int.mul_le_mul (by omega) (by omega) gb.1 (by omega)
  have hT:(if decide ((i:Int)<(v.length:Int))=true then (P.idx v (i:Int)).bind fun x17=>some (IntKind.i64.wrap ((IntKind.i64.wrap (u[i]-c))-(IntKind.i64.wrap (g*x17)))) else some (IntKind.i64.wrap (u[i]-c)))=some (u[i]-c-g*gd v i):=by
   by_cases hib:i<v.length
   ·rw[zzp (by simpa using hib),cN hib,ahr]
    rw[XV hib]at gb hm0 hm1 ⊢
    rw[jX (x:=u[i]-c) (by omega),jX (x:=g*v[i]) (by omega),jX (by omega)]
   ·rw[zzn (by simpa using hib),XU (by omega),jX (by omega)];simp
  rw[hT,ahr,O6,ahr,sN (by omega) (by omega),jX (x:=0-_) (by omega)]
  have e1:IntKind.i64.wrap ((i:Int)+1)=((i+1:Nat):Int):=by rw[jX (by omega)];omega
  refine⟨hlt,_,rfl,e1,by simpa using hll,hd.set _ (by omega),fun j hj hj' hij =>?_,by simp only;omega,?_⟩
  ·simp only[Int.toNat_natCast]at hj ⊢
   rw[ah3 (by omega)]
   exact hz j (by simpa using hj) hj' (by omega)
  ·simp only[Int.toNat_natCast]
   rw[s7 hli,hz i hli hlt (afR _),xJ]
   have hp:=zm i (u[i]-c-g*gd v i)
   rw[ah4 (pw i),ah4 (pw i)]at hp
   have e2:g*(dv (v.take i)+pw i*gd v i)=g*dv (v.take i)+pw i*(g*gd v i):=by rw[ah0,aia]
   rw[e2,ah4 (pw i),ah4 (pw (i+1)),aic]
   omega
 ·right
  have hia:i=u.length:=by omega
  subst hia
  refine⟨(c,l),by rw[zzn (by simp)],hll,hd,hc,?_⟩
  rw[C9 hl]at he
  exact he
theorem Kw {u v:List Int} (hu:Dg u) (hv:Dg v) (hf:Fit u) (hl:v.length<=u.length) :
  ∃l,bc (jQ v u) (0,0,u)=some l∧l.length=u.length∧Dg l∧∃c,0<=c∧dv l+pw u.length*c=dv u+dv v:=by
 unfold Fit at hf
 refine ez (I:=fun i s=>s.2.1=(i:Int)∧s.2.2.length=u.length∧Dg s.2.2∧(∀j (hj:j<s.2.2.length) (hj':j<u.length),i<=j->s.2.2[j]=u[j])∧(0<=s.1∧s.1<=1)∧dv s.2.2+pw i*s.1=dv u+dv (v.take i))
  u.length _ ⟨rfl,rfl,hu,fun j hj _ _=>rfl,by simp,by simp[dv]⟩ (mM (by omega)) ?_
 rintro i ⟨c,s,l⟩ hi ⟨h1,hll,hd,hz,hc,he⟩
 simp only at h1 hll hd hz hc he
 subst h1
 simp only[jQ]
 by_cases hlt:i<u.length
 ·left
  have hli:i<l.length:=by omega
  rw[zzp (by simpa using hlt),cN hli,ahr,hz i hli hlt (afR _)]
  have ga:=hu.get hlt
  have gb:=Tb hv i
  have hT:(if decide ((i:Int)<(v.length:Int))=true then (P.idx v (i:Int)).bind fun x35=>some (IntKind.i64.wrap ((IntKind.i64.wrap (c+u[i]))+x35)) else some (IntKind.i64.wrap (c+u[i])))=some (c+u[i]+gd v i):=by
   by_cases hib:i<v.length
   ·rw[zzp (by simpa using hib),cN hib,ahr]
    rw[XV hib]at gb ⊢
    rw[jX (x:=c+u[i]) (by omega),jX (by omega)]
   ·rw[zzn (by simpa using hib),XU (by omega),jX (by omega)];simp
  rw[hT,ahr,O6,ahr,sN (by omega) (by omega)]
  have e1:IntKind.i64.wrap ((i:Int)+1)=((i+1:Nat):Int):=by rw[jX (by omega)];omega
  refine⟨hlt,_,rfl,e1,by simpa using hll,hd.set _ (by omega),fun j hj hj' hij =>?_,by simp only;omega,?_⟩
  ·simp only[Int.toNat_natCast]at hj ⊢
   rw[ah3 (by omega)]
   exact hz j (by simpa using hj) hj' (by omega)
  ·simp only[Int.toNat_natCast]
   rw[s7 hli,hz i hli hlt (afR _),xJ]
   have hp:=zm i (c+u[i]+gd v i)
   rw[ah0 (pw i),ah0 (pw i)]at hp
   rw[ah4 (pw i)]
   omega
 ·right
  have hia:i=u.length:=by omega
  subst hia
  refine⟨l,by rw[zzn (by simp)],hll,hd,c,hc.1,?_⟩
  rw[C9 hl]at he
  exact he
theorem V0 {u v:List Int} {g:Int} (hu:Dg u) (hv:Dg v) (hf:Fit u) (hl:v.length<=u.length) (hV:0<dv v) (hg0:dv u / dv v<=g) (hg1:g<=dv u / dv v+1) (hgB:g<=1048576) :
  ∃l,fl u v g=some (l,dv u / dv v)∧l.length=u.length∧Dg l∧dv l=dv u % dv v:=by
 have hq0:0<=dv u / dv v:=ah5 (cT hu) (by omega)
 obtain⟨⟨c,l⟩,h1,h2,h3,h4,h5⟩:=Kv hu hv ⟨by omega,hgB⟩ hf hl
 simp only at h2 h3 h4 h5
 have hm:=ah8 (dv u) (dv v)
 have hm0:=Int.emod_nonneg (dv u) (show dv v≠0 by omega)
 have hm1:=ah7 (dv u) hV
 have hll:=oP h3
 have hl0:=cT h3
 rw[h2]at hll
 have hp:=ox u.length
 have hvl:dv v<pw u.length:=Int.lt_of_lt_of_le (oP hv) (rF hl)
 unfold fl nP
 rw[h1,ahr]
 simp only
 rcases (show g=dv u / dv v∨g=dv u / dv v+1 by omega) with hg|hg
 ·have hgv:g*dv v=dv v*(dv u / dv v):=by rw[hg,ahX]
  have hc0:c=0:=by
   rcases (show c=0∨1<=c by omega) with h|h
   ·exact h
   ·have:pw u.length*1<=pw u.length*c:=ahZ h (by omega)
    omega
  subst hc0
  rw[zzp (by simp),ahr,zzp (by simpa using h2)]
  exact⟨l,by rw[hg],h2,h3,by rw[aic]at h5;omega⟩
 ·have hgv:g*dv v=dv v*(dv u / dv v)+dv v:=by rw[hg,aib,aid,ahX]
  have hc0:c≠0:=by
   intro h
   subst h
   rw[aic]at h5
   omega
  obtain⟨m,g1,g2,g3,d,g4,g5⟩:=Kw h3 hv (by unfold Fit at *;omega) (by omega)
  rw[zzn (by simpa using hc0),g1,ahr,ahr,zzp (by simp;omega)]
  refine⟨m,by rw[jX (by omega),hg];simp,by omega,g3,?_⟩
  rw[h2]at g5
  have hml:=oP g3
  have hm0':=cT g3
  rw[g2,h2]at hml
  have hcd:c=d:=by
   rcases ahU c d with h|h|h
   ·have:pw u.length*(c+1)<=pw u.length*d:=ahZ (by omega) (by omega)
    rw[ah0,ahY]at this
    omega
   ·exact h
   ·have:pw u.length*(d+1)<=pw u.length*c:=ahZ (by omega) (by omega)
    rw[ah0,ahY]at this
    omega
  subst hcd
  omega
theorem QD {v u:List Int} {s13:Int} {v1 v2 w2 T V W:Int} {n:Nat} (hn:2<=n) (hlen:v.length=n) (hfv:n<=17592186044416) (i:Nat) (hs:s13=i) (hfi:i+n<=17592186044416)
  (hv2:P.idx v (((n-2:Nat)):Int)=some v2) (hw2:P.idx u (((i+n-2:Nat)):Int)=some w2)
  (b1:524288<=v1∧v1<1048576) (b2:0<=v2∧v2<1048576) (bw:0<=w2∧w2<1048576) (hT0:0<=T) (hT1:T<1048576*1048576)
  (hV:pw (n-2)*(v1*1048576+v2)<=V∧V<pw (n-2)*(v1*1048576+v2+1)) (hW:pw (n-2)*(T*1048576+w2)<=W∧W<pw (n-2)*(T*1048576+w2+1)) (hWV:W<1048576*V) :
  ∃g,bc (qN v s13 u v1) (T / v1,T % v1)=some g∧W / V<=g∧g<=W / V+1∧g<=1048576:=by
 subst hs
 have hp:=ox (n-2)
 have hVp:0<V:=by
  have:pw (n-2)*1<=pw (n-2)*(v1*1048576+v2):=ahZ (by omega) (by omega)
  omega
 have hW0:0<=W:=by
  have:0<=pw (n-2)*(T*1048576+w2):=ah9 (by omega) (by omega)
  omega
 have hq0:0<=W / V:=ah5 hW0 (by omega)
 have hqB:W / V<1048576:=ah6 hVp hWV
 have hm:=ah8 T v1
 have hm0:=Int.emod_nonneg T (show v1≠0 by omega)
 have hm1:=ah7 T (show 0<v1 by omega)
 have hd0:0<=T / v1:=ah5 hT0 (by omega)
 have hd1:T / v1<=2097152:=by
  have:T / v1<2097153:=ah6 (by omega) (by
   have:2097153*524288<=2097153*v1:=ahZ b1.1 (by omega)
   omega)
  omega
 have hge:∀g r:Int,g*v1+r=T->W / V<=g->g*v2>r*1048576+w2->W / V<=g-1:=by
  intro g r h1 h2 h3
  have h4:W<g*V:=by
   have e1:g*(v1*1048576+v2)>=T*1048576+w2+1:=by
    rw[<- h1]
    have:g*(v1*1048576+v2)=g*v1*1048576+g*v2:=by rw[ah0,ah1]
    rw[this,aib]
    omega
   have e2:pw (n-2)*(T*1048576+w2+1)<=pw (n-2)*(g*(v1*1048576+v2)):=ahZ e1 (by omega)
   have e3:g*(pw (n-2)*(v1*1048576+v2))<=g*V:=ahZ hV.1 (by omega)
   have e4:pw (n-2)*(g*(v1*1048576+v2))=g*(pw (n-2)*(v1*1048576+v2)):=aia _ _ _
   omega
  have:=ah6 hVp h4
  omega
 have hle:∀g r:Int,g*v1+r=T->0<=g->g<=1048576->g*v2<=r*1048576+w2->g<=W / V+1:=by
  intro g r h1 h0 hB h3
  have e1:g*(v1*1048576+v2)<=T*1048576+w2:=by
   rw[<- h1]
   have:g*(v1*1048576+v2)=g*v1*1048576+g*v2:=by rw[ah0,ah1]
   rw[this,aib]
   omega
  have e2:g*V<=W+V:=by
   have f1:g*V<=g*(pw (n-2)*(v1*1048576+v2+1)):=ahZ (by omega) h0
   have f2:g*(pw (n-2)*(v1*1048576+v2+1))=pw (n-2)*(g*(v1*1048576+v2))+pw (n-2)*g:=by
    rw[aia,ah0 g,ahY,ah0]
   have f3:pw (n-2)*(g*(v1*1048576+v2))<=pw (n-2)*(T*1048576+w2):=ahZ e1 (by omega)
   have f4:pw (n-2)*g<=pw (n-2)*(v1*1048576+v2):=ahZ (by omega) (by omega)
   omega
  have e3:(g-1)*V<=W:=by rw[Int.sub_mul,aid];omega
  have:=Int.le_ediv_of_mul_le hVp e3
  omega
 have hbase:W / V<=T / v1:=by
  have e1:W<(T / v1+1)*V:=by
   have f1:T+1<=(T / v1+1)*v1:=by
    have:(T / v1+1)*v1=v1*(T / v1)+v1:=by rw[aib,aid,ahX]
    omega
   have f2:T*1048576+w2+1<=(T / v1+1)*(v1*1048576+v2):=by
    have g1:(T+1)*1048576<=(T / v1+1)*v1*1048576:=aie f1 (by omega)
    have g2:0<=(T / v1+1)*v2:=ah9 (by omega) b2.1
    rw[ah0,<- ah1]
    omega
   have f3:pw (n-2)*(T*1048576+w2+1)<=pw (n-2)*((T / v1+1)*(v1*1048576+v2)):=ahZ f2 (by omega)
   have f4:(T / v1+1)*(pw (n-2)*(v1*1048576+v2))<=(T / v1+1)*V:=ahZ hV.1 (by omega)
   have f5:pw (n-2)*((T / v1+1)*(v1*1048576+v2))=(T / v1+1)*(pw (n-2)*(v1*1048576+v2)):=aia _ _ _
   omega
  have:=ah6 hVp e1
  omega
 refine DF (I:=fun (s:Int×Int)=>s.1*v1+s.2=T∧W / V<=s.1∧s.1<=2097152∧0<=s.2) (μ:=fun (s:Int×Int)=>s.1.toNat) _ ⟨?_,hbase,hd1,hm0⟩ (by unfold FU;omega) ?_
 ·show T / v1*v1+T % v1=T
  rw[ahX];exact hm
 rintro⟨g,r⟩ ⟨h1,h2,h3,h4⟩
 simp only at h1 h2 h3 h4
 have hgv:0<=g*v1:=ah9 (by omega) (by omega)
 simp only[qN]
 have el:IntKind.i64.wrap ((v.length:Int)-2)=((n-2:Nat):Int):=by rw[hlen,jX (by omega)];omega
 have ei:IntKind.i64.wrap ((IntKind.i64.wrap ((i:Int)+(v.length:Int)))-2)=((i+n-2:Nat):Int):=by rw[hlen,jX (x:=(i:Int)+n) (by omega),jX (by omega)];omega
 rw[el,ei]
 have hstep:W / V<=g-1->∃s':Int×Int,(some (Sum.inl (IntKind.i64.wrap (g-1),IntKind.i64.wrap (r+v1))):Option ((Int×Int)⊕Int))=some (.inl s')∧(s'.1*v1+s'.2=T∧W / V<=s'.1∧s'.1<=2097152∧0<=s'.2)∧s'.1.toNat<g.toNat:=by
  intro hlt
  refine⟨_,rfl,?_⟩
  rw[jX (x:=g-1) (by omega),jX (x:=r+v1) (by omega)]
  simp only
  refine⟨⟨by rw[Int.sub_mul,aid];omega,hlt,by omega,by omega⟩,by omega⟩
 by_cases hgB:g>=1048576
 ·rw[zzp (by simpa using hgB),ahr,zzp rfl]
  exact .inl (hstep (by omega))
 ·rw[zzn (by simpa using hgB)]
  by_cases hr:r<1048576
  ·have hgv2:0<=g*v2:=ah9 (by omega) b2.1
   have hgv2':g*v2<=1048576*1048576:=Int.mul_le_mul (by omega) (by omega) b2.1 (by omega)
   rw[zzp (by simpa using hr),hv2,ahr,YW h4 (by omega),ahr,hw2,ahr,jX (x:=g*v2) (by omega),Rg h4 (by omega) bw,ahr]
   by_cases ht:g*v2>1048576*r+w2
   ·rw[zzp (by simpa using ht)]
    exact .inl (hstep (hge g r h1 h2 (by omega)))
   ·rw[zzn (by simpa using ht)]
    exact .inr ⟨g,rfl,h2,hle g r h1 (by omega) (by omega) (by omega),by omega⟩
  ·rw[zzn (by simpa using hr),ahr,zzn (by simp)]
   refine .inr ⟨g,rfl,h2,hle g r h1 (by omega) (by omega) ?_,by omega⟩
   have:g*v2<=1048575*1048575:=Int.mul_le_mul (by omega) (by omega) b2.1 (by omega)
   have:1048576*1048576<=r*1048576:=aie (by omega) (by omega)
   omega
theorem acK {α:Type} {l:List α} {a b:Nat} (h:a<=b) (hb:b<=l.length):Bv l (a:Int) (b:Int)=some ((l.drop a).take (b-a)):=by
 unfold Bv
 rw[zzp ⟨by omega,by omega,by omega⟩]
 simp
theorem aax {l:List Int} {n:Nat} (hl:l.length=n) (hn:2<=n) (hd:Dg l) :
  pw (n-2)*((l[n-1]'(by omega))*1048576+l[n-2]'(by omega))<=dv l∧dv l<pw (n-2)*((l[n-1]'(by omega))*1048576+l[n-2]'(by omega)+1):=by
 have e:=iG l (i:=n-2) (by omega)
 rw[lM (by omega),lM (i:=n-2+1) (by omega),ahD (by omega)]at e
 have e1:l[n-2+1]'(by omega)=l[n-1]'(by omega):=by congr 1;omega
 rw[e1]at e
 have h1:=cT (hd.take (n-2))
 have h2:=oP (hd.take (n-2))
 rw[aga,ag4 (by omega)]at h2
 simp only[dv]at e
 have e2:l[n-2]'(by omega)+1048576*(l[n-1]'(by omega)+1048576*0)=(l[n-1]'(by omega))*1048576+l[n-2]'(by omega):=by omega
 rw[e2]at e
 rw[ah0 (pw (n-2)) _ 1,ahY]
 omega
theorem aay {l:List Int} {n:Nat} (hl:l.length=n+1) (hn:2<=n) (hd:Dg l) :
  pw (n-2)*((1048576*(l[n]'(by omega))+l[n-1]'(by omega))*1048576+l[n-2]'(by omega))<=dv l∧dv l<pw (n-2)*((1048576*(l[n]'(by omega))+l[n-1]'(by omega))*1048576+l[n-2]'(by omega)+1):=by
 have e:=iG l (i:=n-2) (by omega)
 rw[lM (by omega),lM (i:=n-2+1) (by omega),lM (i:=n-2+1+1) (by omega),ahD (by omega)]at e
 have e1:l[n-2+1]'(by omega)=l[n-1]'(by omega):=by congr 1;omega
 have e3:l[n-2+1+1]'(by omega)=l[n]'(by omega):=by congr 1;omega
 rw[e1,e3]at e
 have h1:=cT (hd.take (n-2))
 have h2:=oP (hd.take (n-2))
 rw[aga,ag4 (by omega)]at h2
 simp only[dv]at e
 have e2:l[n-2]'(by omega)+1048576*(l[n-1]'(by omega)+1048576*(l[n]'(by omega)+1048576*0))=(1048576*(l[n]'(by omega))+l[n-1]'(by omega))*1048576+l[n-2]'(by omega):=by omega
 rw[e2]at e
 rw[ah0 (pw (n-2)) _ 1,ahY]
 omega
theorem Xl {v u0:List Int} {n m:Nat} (hv:Dg v) (hvl:v.length=n) (hn:2<=n) (hv1:524288<=v[n-1]'(by omega)) (hu:Dg u0) (hul:u0.length=m+n) (hf:m+n<=17592186044416) (hdr:dv (u0.drop m)<dv v) :
  ∃r,bc (qM v) ((m:Int)-1,u0,List.replicate m 0)=some r∧r.1.length=m+n∧Dg r.1∧r.2.length=m∧Dg r.2∧dv r.1+dv v*dv r.2=dv u0∧dv r.1<dv v:=by
 have hvn:=oP hv
 rw[hvl]at hvn
 refine ez (I:=fun i s=>s.1=((m-i:Nat):Int)-1∧s.2.1.length=m+n∧Dg s.2.1∧s.2.2.length=m∧Dg s.2.2∧(∀j (hj:j<s.2.2.length),j<m-i->s.2.2[j]=0)∧dv s.2.1+dv v*dv s.2.2=dv u0∧dv (s.2.1.drop (m-i))<dv v)
  m _ ⟨rfl,hul,hu,by simp,Dg.rep _,fun j hj _=>by simp,by simp[CH],hdr⟩ (mM (by omega)) ?_
 rintro i ⟨s,u,q⟩ hi ⟨h1,hl,hd,hql,hqd,hz,he,hdr⟩
 simp only at h1 hl hd hql hqd hz he hdr
 subst h1
 generalize hk:m-i=k at *
 simp only[qM]
 by_cases h0:0<k
 ·left
  have ek:((k:Int)-1)=((k-1:Nat):Int):=by omega
  rw[ek,zzp (by simp)]
  have e1:IntKind.i64.wrap (((k-1:Nat):Int)+(v.length:Int))=((k-1+n:Nat):Int):=by rw[hvl,jX (by omega)];omega
  have e2:IntKind.i64.wrap (((k-1+n:Nat):Int)-1)=((k-1+n-1:Nat):Int):=by rw[jX (by omega)];omega
  have e3:IntKind.i64.wrap ((v.length:Int)-1)=((n-1:Nat):Int):=by rw[hvl,jX (by omega)];omega
  have e4:IntKind.i64.wrap (((k-1+n:Nat):Int)+1)=((k-1+n+1:Nat):Int):=by rw[jX (by omega)];omega
  have e5:IntKind.i64.wrap (((k-1:Nat):Int)-1)=((k-1:Nat):Int)-1:=jX (by omega)
  rw[e1,e2,e3,e4,e5]
  have i1:k-1+n<u.length:=by omega
  have i2:k-1+n-1<u.length:=by omega
  have i3:k-1+n-2<u.length:=by omega
  have iv:n-1<v.length:=by omega
  have iv2:n-2<v.length:=by omega
  have g1:=hd.get i1
  have g2:=hd.get i2
  have g3:=hd.get i3
  have gv:=hv.get iv
  have gv2:=hv.get iv2
  rw[cN i1,ahr,YW g1.1 (by omega),ahr,cN i2,ahr,cN iv,ahr,Rg g1.1 (by omega) g2,adw (by omega) (by omega) (by omega),ahr,adK (by omega) (by omega),ahr,acK (by omega) (by omega),show k-1+n+1-(k-1)=n+1 by omega]
  generalize hw:(u.drop (k-1)).take (n+1)=w
  have hwl:w.length=n+1:=by rw[<- hw,aga,agb];omega
  have hwd:Dg w:=by rw[<- hw];exact (hd.drop _).take _
  have hwg:∀j (hj:j<n+1),w[j]'(by omega)=u[k-1+j]'(by omega):=by
   intro j hj
   subst hw
   rw[List.getElem_take,List.getElem_drop]
  have hup:dv (u.drop (k+n))=0:=by
   have s1:=iG (u.drop k) (i:=n) (by rw[agb];omega)
   rw[ahF]at s1
   have n1:=cT ((hd.drop k).take n)
   have n2:=cT (hd.drop (k+n))
   have hp:=ox n
   rcases (show dv (u.drop (k+n))=0∨1<=dv (u.drop (k+n)) by omega) with h|h
   ·exact h
   ·have:pw n*1<=pw n*dv (u.drop (k+n)):=ahZ h (by omega)
    omega
  have hW:dv w=dv (u.drop (k-1)):=by
   have s1:=iG (u.drop (k-1)) (i:=n+1) (by rw[agb];omega)
   rw[ahF,show k-1+(n+1)=k+n by omega,hup,hw]at s1
   omega
  have hWk:dv w=u[k-1]+1048576*dv (u.drop k):=by
   rw[hW,lM (by omega),show k-1+1=k by omega]
  have gk:=hd.get (show k-1<u.length by omega)
  have hWV:dv w<1048576*dv v:=by omega
  have t2:=aax hvl hn hv
  have t3:=aay hwl hn hwd
  rw[hwg n (by omega),hwg (n-1) (by omega),hwg (n-2) (by omega)]at t3
  have a1:u[k-1+(n-1)]'(by omega)=u[k-1+n-1]'(by omega):=by congr 1;omega
  have a2:u[k-1+(n-2)]'(by omega)=u[k-1+n-2]'(by omega):=by congr 1;omega
  rw[a1,a2]at t3
  obtain⟨g,q1,q2,q3,q4⟩:=QD (s13:=((k-1:Nat):Int)) hn hvl (by omega) (k-1) rfl (by omega) (cN iv2) (cN i3) ⟨hv1,gv.2⟩ gv2 g3 (T:=1048576*u[k-1+n]+u[k-1+n-1]) (by omega) (by omega) t2 t3 hWV
  rw[q1,ahr,ahr]
  have hVp:0<dv v:=by
   have:=cT hwd
   omega
  obtain⟨l,r1,r2,r3,r4⟩:=V0 hwd hv (by unfold Fit;omega) (by omega) hVp q2 q3 q4
  have iq:k-1<q.length:=by omega
  rw[r1,ahr,cN iq,ahr]
  simp only
  have hq0:0<=dv w / dv v:=ah5 (cT hwd) (by omega)
  have hqB:dv w / dv v<1048576:=ah6 hVp hWV
  have hmod:=ah7 (dv w) hVp
  simp only[Int.toNat_natCast]
  have hdl:dv (l++u.drop (k-1+n+1))=dv w % dv v:=by
   rw[iU,show k-1+n+1=k+n by omega,hup,r4];omega
  have hut:(u.take (k-1)).length=k-1:=by rw[aga];omega
  have hdu:dv (u.take (k-1)++(l++u.drop (k-1+n+1)))=dv (u.take (k-1))+pw (k-1)*(dv w % dv v):=by rw[iU,hut,hdl]
  refine⟨by omega,_,rfl,by rw[show m-(i+1)=k-1 by omega],?_,(hd.take _).append (r3.append (hd.drop _)),by simpa using hql,hqd.set _ ⟨hq0,hqB⟩,fun j hj hjk =>?_,?_,?_⟩
  ·simp only[ag1,aga,agb];omega
  ·rw[ah3 (by omega)]
   exact hz j (by simpa using hj) (by omega)
  ·rw[hdu,s7 iq,hz _ iq (by omega),Int.sub_zero,ah0]
   have s2:=iG u (i:=k-1) (by omega)
   rw[<- hW]at s2
   have hm:=ah8 (dv w) (dv v)
   have:pw (k-1)*dv w=dv v*(pw (k-1)*(dv w / dv v))+pw (k-1)*(dv w % dv v):=by
    rw[aia,<- ah0,hm]
   omega
  ·rw[show m-(i+1)=k-1 by omega,ahC,hut,ag3,ahj,ahD (by omega),ahA,hdl]
   exact hmod
 ·right
  have:k=0:=by omega
  subst this
  refine⟨(u,q),by rw[zzn (by simp)],hl,hd,hql,hqd,he,?_⟩
  simpa using hdr
theorem Rn {v:List Int} {t:Int} {n:Nat} (hl:v.length=n) (hn:0<n) (hf:n<=17592186044416) (ht:v[n-1]'(by omega)=t) (h1:1<=t) (h2:t<1048576) :
  ∃s,bc (qL v) 1=some s∧∃j:Nat,s=2 ^ j∧j<=19∧524288<=t*s∧t*s<1048576:=by
 refine ez (I:=fun i s=>s=2 ^ i∧t*s<1048576) 20 _ ⟨rfl,by omega⟩ (by unfold FU;omega) ?_
 rintro i s hi ⟨rfl,hb⟩
 have hp:(0:Int)<2 ^ i:=Int.pow_pos (by decide)
 have hpt:(2:Int) ^ i<=t*2 ^ i:=by
  have:1*(2:Int) ^ i<=t*2 ^ i:=aie h1 (by omega)
  omega
 have hi20:i<=19:=by
  rcases agD 19 i with h|h
  ·have hx:i=20:=by omega
   subst hx
   omega
  ·exact h
 simp only[qL]
 have e:IntKind.i64.wrap ((v.length:Int)-1)=((n-1:Nat):Int):=by rw[hl,jX (by omega)];omega
 rw[e,cN (by omega),ahr,ht,jX (x:=t*2 ^ i) (by omega)]
 by_cases h:t*2 ^ i<524288
 ·left
  rw[zzp (by simpa using h)]
  refine⟨by omega,_,rfl,by rw[jX (by omega),Int.pow_succ],?_⟩
  rw[jX (by omega),<- ah1]
  omega
 ·right
  rw[zzn (by simpa using h)]
  exact⟨_,rfl,i,rfl,hi20,by omega,hb⟩
theorem div_eq {m n:Nat} (hn:n≠0) (hfm:(bf m).length<=17592186043904) (hfn:(bf n).length<=17592186043904):oN (bf m) (bf n)=some (bf (m / n),bf (m % n)):=by
 unfold oN
 rw[Cq (by unfold Fit;omega) (by unfold Fit;omega),ahr]
 by_cases hlt:m<n
 ·have:su (m:Int) n<0:=by unfold su;rw[zzp (by omega)];decide
  rw[zzp (by simpa using this),sV (by unfold Fit;omega),ahr,Nat.div_eq_of_lt hlt,agN hlt,cR]
 have:¬su (m:Int) n<0:=by unfold su;rw[zzn (by omega)];split<;>decide
 rw[zzn (by simpa using this)]
 obtain⟨hp1,hp2⟩:=xj hn
 have hnl:=iM n
 by_cases h1:(bf n).length=1
 ·rw[zzp (by simp;omega)]
  have hnB:(n:Int)<1048576:=by rw[h1]at hnl;simpa [pw] using hnl
  have e:bf n=[(n:Int)]:=by
   rw[me hn,Nat.div_eq_of_lt (by omega),cR,agN (by omega)]
  have ei:P.idx (bf n) 0=some (n:Int):=by rw[e];rfl
  rw[ei,ahr,O5 (dR m) ⟨by omega,by omega⟩ (by unfold Fit;omega),ahr,bY]
  have hm1:(m:Int) % n=((m % n:Nat):Int):=(Int.natCast_emod m n).symm
  have hm2:((m:Int) / n).toNat=m / n:=by
   rw[<- Int.natCast_ediv];rfl
  have hml:m % n<n:=Nat.mod_lt _ (by omega)
  simp only[hm1,hm2]
  rw[BL (n:=m % n) (by simp[Fit]) (Dg.mk (by omega) Dg.nil) (by simp[dv]),ahr]
 ·rw[zzn (by simp;omega)]
  generalize hN:(bf n).length=N at *
  have hN2:2<=N:=by omega
  have hdn:=dR n
  have gt:=hdn.get (show N-1<(bf n).length by omega)
  generalize ht:(bf n)[N-1]'(by omega)=t at gt
  have hsp:=iG (bf n) (i:=N-1) (by omega)
  rw[bY,lM (by omega),ahD (by omega),ht]at hsp
  simp only[dv,aic,Int.add_zero]at hsp
  have lo0:=cT (hdn.take (N-1))
  have lo1:=oP (hdn.take (N-1))
  rw[aga,ag4 (by omega)]at lo1
  have hpw:=ox (N-1)
  have ht1:1<=t:=by
   rcases (show t=0∨1<=t by omega) with h|h
   ·subst h;omega
   ·exact h
  obtain⟨s,hs1,j,hs2,hj,hs3,hs4⟩:=Rn hN (by omega) (by omega) ht ht1 gt.2
  have hj2:(2:Int) ^ j<=524288:=by
   have:∀j:Nat,j<=19->(2:Int) ^ j<=524288:=by decide
   exact this j hj
  have hj1:(0:Int)<2 ^ j:=Int.pow_pos (by decide)
  have hts:(t+1)*s<=1048576:=by
   have h20:(1048576:Int)=2 ^ (20-j)*2 ^ j:=by rw[<- Int.pow_add,Nat.sub_add_cancel (by omega)];rfl
   rw[h20]at hs4 ⊢
   rw[hs2]at hs4 ⊢
   have:t<2 ^ (20-j):=Int.lt_of_mul_lt_mul_right hs4 (by omega)
   exact aie (by omega) (by omega)
  rw[<- hs2]at hj1 hj2
  obtain⟨S,rfl⟩:∃S:Nat,s=S:=⟨s.toNat,by omega⟩
  have hSd:Dg [(S:Int)]:=Dg.mk (by omega) Dg.nil
  have hdvS:dv [(S:Int)]=S:=by simp[dv]
  rw[hs1,ahr,mul_eq (dR m) hSd (by simp;omega),ahr,bY,hdvS]
  have em:((m:Int)*S).toNat=m*S:=by rw[<- agQ];rfl
  have en:((n:Int)*S).toNat=n*S:=by rw[<- agQ];rfl
  rw[em]
  have hmS:(bf (m*S)).length<=(bf m).length+1:=by
   apply ko
   rw[lV,agQ]
   have a1:=iM m
   have:(m:Int)*S<=m*1048576:=ahZ (by omega) (by omega)
   omega
  have hU:∃u,((if ((((bf (m*S)++[0]).length:Int))==((bf m).length:Int))=true then (lu 8 (bf (m*S)++[0]) [0]).bind fun x98=>some x98 else some (bf (m*S)++[0]))=some u)∧Dg u∧dv u=(m*S:Nat)∧dv u<pw (u.length-1)∧(bf (m*S)).length+1<=u.length∧u.length<=(bf m).length+3:=by
   have d1:Dg (bf (m*S)++[0]):=(dR _).append (Dg.mk (by omega) Dg.nil)
   have v1:dv (bf (m*S)++[0])=(m*S:Nat):=by rw[iU,bY];simp[dv]
   have v2:=iM (m*S)
   split
   ·rw[K0 (by simp;omega),ahr]
    refine⟨_,rfl,d1.append (Dg.mk (by omega) Dg.nil),by rw[iU,v1];simp[dv],?_,by simp,by simp;omega⟩
    rw[iU,v1]
    simp only[dv,ag1,List.length_cons,List.length_nil]
    have:=rF (i:=(bf (m*S)).length) (j:=(bf (m*S)).length+1) (by omega)
    rw[show (bf (m*S)).length+(0+1)+(0+1)-1=(bf (m*S)).length+1 by omega]
    omega
   ·refine⟨_,rfl,d1,v1,?_,by simp,by simp;omega⟩
    rw[v1]
    simpa using v2
  obtain⟨u,hu1,hu2,hu3,hu4,hu5,hu6⟩:=hU
  rw[K0 (by simp;omega),ahr,mul_eq (dR n) hSd (by simp;omega),ahr,bY,hdvS,en,hu1,ahr]
  have hVlo:524288*pw (N-1)<=((n*S:Nat):Int):=by
   rw[agQ,hsp,aib]
   have a1:0<=dv ((bf n).take (N-1))*S:=ah9 lo0 (by omega)
   have a2:pw (N-1)*524288<=pw (N-1)*(t*S):=ahZ hs3 (by omega)
   rw[ah1]
   omega
  have hVhi:((n*S:Nat):Int)<pw N:=by
   have a0:pw N=1048576*pw (N-1):=by rw[<- lV];congr 1;omega
   rw[a0,agQ,hsp]
   have a1:(dv ((bf n).take (N-1))+pw (N-1)*t+1)*S<=(pw (N-1)*(t+1))*S:=aie (by rw[ah0];omega) (by omega)
   have a2:pw (N-1)*((t+1)*S)<=pw (N-1)*1048576:=ahZ hts (by omega)
   rw[ah1]at a1
   rw[aib _ 1,aid]at a1
   omega
  have hVN:(bf (n*S)).length=N:=by
   have a1:=ko hVhi
   rcases agD (bf (n*S)).length N with h|h
   ·have a2:=iM (n*S)
    have a3:=rF (i:=(bf (n*S)).length) (j:=N-1) (by omega)
    omega
   ·omega
  have hV1:524288<=(bf (n*S))[N-1]'(by omega):=by
   have a1:=iG (bf (n*S)) (i:=N-1) (by omega)
   rw[bY,lM (by omega),ahD (by omega)]at a1
   simp only[dv,aic,Int.add_zero]at a1
   have a2:=oP ((dR (n*S)).take (N-1))
   rw[aga,ag4 (by omega)]at a2
   have a3:pw (N-1)*524288<pw (N-1)*((bf (n*S))[N-1]'(by omega)+1):=by rw[ah0];omega
   have:=Int.lt_of_mul_lt_mul_left a3 (by omega)
   omega
  have hlen:N+1<=u.length:=by
   have:n*S<=m*S:=agE _ (by omega)
   have:=eL this
   omega
  obtain⟨M,hM⟩:∃M,u.length=M+N:=⟨u.length-N,by omega⟩
  have e1:IntKind.i64.wrap ((u.length:Int)-((bf (n*S)).length:Int))=(M:Int):=by rw[hVN,hM,jX (by omega)];omega
  rw[e1,mk0 (by omega),ahr,List.length_replicate,jX (x:=(M:Int)-1) (by omega)]
  have hdr:dv (u.drop M)<dv (bf (n*S)):=by
   rw[bY]
   have a1:=iG u (i:=M) (by omega)
   have a2:=cT (hu2.take M)
   have a3:pw M*dv (u.drop M)<pw M*pw (N-1):=by
    rw[<- Kq,show M+(N-1)=u.length-1 by omega]
    omega
   have:=Int.lt_of_mul_lt_mul_left a3 (by have:=ox M;omega)
   omega
  obtain⟨⟨U,Q⟩,r1,r2,r3,r4,r5,r6,r7⟩:=Xl (dR (n*S)) hVN hN2 hV1 hu2 hM (by omega) hdr
  simp only at r2 r3 r4 r5 r6 r7
  rw[r1,ahr]
  simp only
  rw[bY,hu3]at r6
  rw[bY]at r7
  have hU0:=cT r3
  have hQ0:=cT r5
  have hS:0<S:=by omega
  have hnS:0<n*S:=Nat.mul_pos (by omega) hS
  obtain⟨U',hU'⟩:∃k:Nat,dv U=k:=⟨(dv U).toNat,by omega⟩
  obtain⟨Q',hQ'⟩:∃k:Nat,dv Q=k:=⟨(dv Q).toNat,by omega⟩
  rw[hU',hQ']at r6
  rw[hU']at r7
  have hnat:U'+n*S*Q'=m*S:=by
   have:((U'+n*S*Q':Nat):Int)=((m*S:Nat):Int):=by rw[Int.natCast_add,agQ (n*S) Q'];exact r6
   omega
  have hUlt:U'<n*S:=by omega
  have hQe:Q'=m / n:=by
   have:m*S / (n*S)=Q':=by
    rw[<- hnat,Nat.add_mul_div_left _ _ hnS,Nat.div_eq_of_lt hUlt,agF]
   rw[<- this,Nat.mul_div_mul_right _ _ hS]
  have hUe:U'=(m % n)*S:=by
   have:m*S % (n*S)=U':=by rw[<- hnat,Nat.add_mul_mod_self_left,agN hUlt]
   rw[<- this,Nat.mul_mod_mul_right]
  rw[BL (n:=U') (by unfold Fit;omega) r3 hU',ahr]
  have hUlen:(bf U').length<=N:=ko (by omega)
  rw[O5 (dR U') ⟨by omega,by omega⟩ (by unfold Fit;omega),ahr,BL (n:=Q') (by unfold Fit;omega) r5 hQ',ahr,bY,hQe,hUe]
  have:((((m % n)*S:Nat):Int) / (S:Int)).toNat=m % n:=by
   rw[agQ,Int.mul_ediv_cancel _ (by omega)];rfl
  rw[this]
def il (x:Int):ak:=ak.mk x.sign (bf x.natAbs)
def Ln (x:Int):Nat:=(bf x.natAbs).length
def jE:Nat:=4398046511104
def sL:Nat:=17592186043904
theorem xa {n:Nat} (h:n<=jE):n<=sL:=afT h (by decide)
theorem N3:il 0=ak.mk 0 []:=by unfold il;rw[show (0:Int).natAbs=0 from rfl,cR];rfl
theorem Tx {x y:Int} (h:il x=il y):x=y:=by
 unfold il at h
 simp only[ak.mk.injEq]at h
 have:=Xj h.2
 have h1:=Int.sign_mul_natAbs x
 have h2:=Int.sign_mul_natAbs y
 rw[<- h1,<- h2,h.1,this]
theorem Wu {x:Int} {k:Nat} (h:(x.natAbs:Int)<pw k):Ln x<=k:=ko h
theorem Tu (x:Int):(x.natAbs:Int)<pw (Ln x):=iM _
theorem R7 {x y:Int} (h:x.natAbs<=y.natAbs):Ln x<=Ln y:=eL h
theorem PL (x:Int):Ln (-x)=Ln x:=by unfold Ln;rw[Int.natAbs_neg]
theorem PJ (x y:Int):Ln (x+y)<=max (Ln x) (Ln y)+1:=by
 apply Wu
 have h1:=Tu x
 have h2:=Tu y
 have h3:=rF (i:=Ln x) (j:=max (Ln x) (Ln y)) (by omega)
 have h4:=rF (i:=Ln y) (j:=max (Ln x) (Ln y)) (by omega)
 have h5:=Int.natAbs_add_le x y
 rw[lV]
 omega
theorem wB (x y:Int):Ln (x*y)<=Ln x+Ln y:=by
 apply Wu
 have h1:=Tu x
 have h2:=Tu y
 rw[aif,agQ,Kq]
 have hx:=ox (Ln x)
 calc (x.natAbs:Int)*y.natAbs<=pw (Ln x)*y.natAbs:=aie (by omega) (by omega)
  _<pw (Ln x)*pw (Ln y):=Int.mul_lt_mul_of_pos_left h2 hx
theorem KR {x:Int} (h:x.natAbs<1048576):Ln x<=1:=Wu (by rw[lV,rG];omega)
instance (l:List Int):Decidable (Dg l):=by unfold Dg;infer_instance
def okB (b:ak):Bool:=decide (Dg b.aa)&&(match b.aa.getLast? with|none=>b.ae==0|some d=>(b.ae==1||b.ae == -1)&&d != 0)
theorem yc {b:ak} : okB b=true↔∃x,b=il x:=by
 obtain⟨s,l⟩:=b
 unfold okB
 simp only[agt,decide_eq_true_eq]
 constructor
 ·rintro⟨hd,h⟩
  cases hl:l.getLast? with
  | none =>
   rw[hl]at h
   have:l=[]:=List.getLast?_eq_none_iff.1 hl
   subst this
   exact⟨0,by rw[N3];simpa using h⟩
  | some d =>
   rw[hl]at h
   simp only[agt,ahs,beq_iff_eq,bne_iff_ne]at h
   have hne:l≠[]:=by intro h0;subst h0;simp at hl
   have hlast:∀h:l≠[],l.getLast h≠0:=by
    intro h'
    rw[aih h']at hl
    cases hl
    exact h.2
   have e:=BA hd hlast
   have h0:(dv l).toNat≠0:=by
    intro h0
    rw[h0,cR]at e
    exact hne e.symm
   have hn:=cT hd
   refine⟨s*dv l,?_⟩
   unfold il
   rcases h.1 with rfl|rfl
   ·rw[aid,aii (by omega)]
    have:(dv l).natAbs=(dv l).toNat:=by omega
    rw[this,e]
   ·rw[Int.neg_mul,aid,Int.sign_neg,aii (by omega)]
    have:(-dv l).natAbs=(dv l).toNat:=by omega
    rw[this,e]
 ·rintro⟨x,hx⟩
  unfold il at hx
  simp only[ak.mk.injEq]at hx
  obtain⟨rfl,rfl⟩:=hx
  refine⟨dR _,?_⟩
  by_cases h0:x=0
  ·subst h0;simp[cR]
  ·have hne:bf x.natAbs≠[]:=fun h=>h0 (by have:=sZ.1 h;omega)
   rw[aih hne]
   have h1:=UU _ hne
   simp only[agt,ahs,beq_iff_eq,bne_iff_ne]
   refine⟨?_,h1⟩
   rcases ahU x 0 with h|h|h
   ·right;exact aij h
   ·exact absurd h h0
   ·left;exact aii h
theorem Q3 (x:Int):okB (il x)=true:=yc.2 ⟨x,rfl⟩
theorem EF {b:ak} (hf:Fit b.aa):cn b=some (okB b):=by
 obtain⟨s,l⟩:=b
 simp only[Fit]at hf
 have key:∃r,bc (mS ⟨s,l⟩) 0=some r∧(match r with | .inl _=>Dg l | .inr x=>x=false∧¬Dg l):=by
  refine ez (I:=fun i s=>s=(i:Int)∧Dg (l.take i)) l.length _ ⟨rfl,by simpa using Dg.nil⟩ (mM hf) ?_
  rintro i s hi ⟨rfl,hd⟩
  simp only[mS]
  by_cases hlt:i<l.length
  ·rw[zzp (by simpa using hlt),cN hlt,ahr]
   by_cases h1:l[i]<0
   ·right
    exact⟨.inr false,by rw[zzp (by simpa using h1)],rfl,fun hh=>by have:=hh.get hlt;omega⟩
   ·by_cases h2:l[i]>1048575
    ·right
     exact⟨.inr false,by rw[zzn (by simpa using h1),zzp (by simpa using h2)],rfl,fun hh=>by have:=hh.get hlt;omega⟩
    ·left
     refine⟨hlt,_,by rw[zzn (by simpa using h1),zzn (by simpa using h2)],by rw[jX (by omega)];omega,?_⟩
     have e:l.take (i+1)=l.take i++[l[i]]:=by rw[List.take_add_one];simp[hlt]
     rw[e]
     exact hd.append (Dg.mk (by omega) Dg.nil)
  ·right
   have:i=l.length:=by omega
   subst this
   rw[ahS]at hd
   exact⟨.inl (),by rw[zzn (by simp)],hd⟩
 obtain⟨r,h1,h2⟩:=key
 unfold cn okB
 rw[h1,ahr]
 cases r with
 | inr x =>
  obtain⟨rfl,h⟩:=h2
  simp[h]
 | inl u =>
  simp only at h2 ⊢
  simp only[h2,decide_true,ahl]
  by_cases h0:l=[]
  ·subst h0;simp
  ·have hp:0<l.length:=ahH.2 h0
   have e:IntKind.i64.wrap ((l.length:Int)-1)=((l.length-1:Nat):Int):=by rw[jX (by omega)];omega
   rw[zzn (by simpa using h0),e,cN (by omega),aih h0,List.getLast_eq_getElem]
   simp only[Option.bind_some]
   by_cases hs:s=1
   ·subst hs;simp
   ·rw[zzn (by simpa using hs)]
    by_cases hs':s = -1
    ·subst hs';simp
    ·rw[zzn (by simpa using hs')]
     simp[hs,hs']
theorem ie {x:Int} (h:Ln x<=17592186044416):cn (il x)=some true:=by
 rw[EF (show Fit (il x).aa from h),Q3]
theorem vu {s:Int} {l:List Int} (x:Int) (hf:Fit l) (hd:Dg l) (hv:dv l=x.natAbs) (hs:x≠0->s=x.sign):cy s l=some (il x):=by
 unfold cy
 rw[BL hf hd hv,ahr]
 by_cases h0:x=0
 ·subst h0
  rw[show (0:Int).natAbs=0 from rfl,cR,N3];rfl
 ·have:bf x.natAbs≠[]:=fun h=>h0 (by have:=sZ.1 h;omega)
  rw[zzn (by simpa using this),hs h0];rfl
theorem kM (b:ak):dM true b=some (b,0):=rfl
theorem vt (x:Int):x.sign = -1∨x.sign=0∨x.sign=1:=by
 rcases ahU x 0 with h|h|h
 ·left;exact aij h
 ·subst h;right;left;rfl
 ·right;right;exact aii h
theorem PM {x:Int} (h:Ln x<=jE):lL (il x)=some (il (-x)):=by
 unfold lL
 have hL:jE=4398046511104:=rfl
 rw[ie (by omega),ahr]
 simp only[ahk,ags,if_false]
 have hf:Fit (il x).aa:=by unfold Fit;show Ln x<=_;omega
 rw[sV hf,ahr,vu (-x) hf (dR _) (by show dv (bf _)=_;rw[bY,Int.natAbs_neg]),ahr]
 intro h0
 show IntKind.i64.wrap (0-x.sign)=_
 rw[jX (by have:=vt x;omega),Int.sign_neg,Int.zero_sub]
theorem abd (s t:Int):sX [s,t]=some (if s≠0 then s else t):=by
 have key:∃r,bc (uv [s,t]) 0=some r∧(match r with | .inl _=>s=0∧t=0 | .inr x=>x=if s≠0 then s else t):=by
  refine ez (I:=fun i j=>j=(i:Int)∧(1<=i->s=0)∧(2<=i->t=0)) 2 _ ⟨rfl,by omega,by omega⟩ (by unfold FU;omega) ?_
  rintro i j hi ⟨rfl,h1,h2⟩
  simp only[uv]
  rcases (show i=0∨i=1∨i=2 by omega) with rfl|rfl|rfl
  ·rw[zzp (by simp)]
   show _∨∃r,((some s).bind _=_)∧_
   rw[show P.idx [s,t] ((0:Nat):Int)=some s from rfl,ahr]
   by_cases hs:s=0
   ·left;exact⟨by omega,_,by rw[zzn (by simpa using hs)],by rw[jX (by omega)];rfl,fun _=>hs,by omega⟩
   ·right;exact⟨_,by rw[zzp (by simpa using hs)],by simp[hs]⟩
  ·have hs:=h1 (by omega)
   rw[zzp (by simp),show P.idx [s,t] ((1:Nat):Int)=some t from rfl,ahr]
   by_cases ht:t=0
   ·left;exact⟨by omega,_,by rw[zzn (by simpa using ht)],by rw[jX (by omega)];rfl,fun _=>hs,fun _=>ht⟩
   ·right;exact⟨_,by rw[zzp (by simpa using ht)],by simp[hs]⟩
  ·right
   exact⟨.inl (),by rw[zzn (by simp)],h1 (by omega),h2 (by omega)⟩
 obtain⟨r,h1,h2⟩:=key
 unfold sX
 rw[h1,ahr]
 cases r with
 | inl u=>simp only at h2 ⊢;rw[zzn (by simp[h2.1]),h2.2]
 | inr x=>simp only at h2 ⊢;rw[h2]
theorem oD (x:Int):x.sign=1∧x=x.natAbs∧0<x∨x.sign = -1∧x = -x.natAbs∧x<0∨x.sign=0∧x=0:=by
 rcases ahU x 0 with h|h|h
 ·right;left;exact⟨aij h,by omega,h⟩
 ·subst h;right;right;exact⟨rfl,rfl⟩
 ·left;exact⟨aii h,by omega,h⟩
theorem nG {x:Int} {s:Int} {n:Nat} (hn:n=x.natAbs) (hs:x≠0->s=x.sign) (hL:n≠0->(bf n).length<=17592186044416):cy s (bf n)=some (il x):=by
 subst hn
 refine vu x ?_ (dR _) (bY _) hs
 unfold Fit
 by_cases h:x.natAbs=0
 ·rw[h,cR];simp
 ·exact hL h
theorem abY {x y:Int} (hx:Ln x<=jE) (hy:Ln y<=jE):qH (il x) (il y)=some (il (x+y),0):=by
 have hL:jE=4398046511104:=rfl
 have hLa:=PJ x y
 unfold qH
 rw[ie (by omega),ahr]
 simp only[ahk,ags,if_false]
 rw[ie (by omega),ahr,ahr]
 simp only[ahk,ags,if_false]
 show (if decide (IntKind.i64.wrap (x.sign*y.sign)>=0)=true then _ else _)=_
 have hxd:(il x).aa=bf x.natAbs:=rfl
 have hyd:(il y).aa=bf y.natAbs:=rfl
 have hxs:(il x).ae=x.sign:=rfl
 have hys:(il y).ae=y.sign:=rfl
 rw[hxd,hyd,hxs,hys]
 have fx:(bf x.natAbs).length<=4398046511104:=by show Ln x<=_;omega
 have fy:(bf y.natAbs).length<=4398046511104:=by show Ln y<=_;omega
 have sx:=oD x
 have sy:=oD y
 have hw:IntKind.i64.wrap (x.sign*y.sign)=x.sign*y.sign:=by
  apply jX
  rcases vt x with h|h|h<;>rcases vt y with g|g|g<;>rw[h,g]<;>decide
 rw[hw]
 by_cases hs:x.sign*y.sign>=0
 ·rw[zzp (by simpa using hs),abd,ahr,add_eq (dR _) (dR _) (by omega) (by omega),ahr,bY,bY]
  have hn:((x.natAbs:Int)+y.natAbs).toNat=(x+y).natAbs:=by
   rcases sx with⟨a,b,c⟩|⟨a,b,c⟩|⟨a,b⟩<;>rcases sy with⟨a',b',c'⟩|⟨a',b',c'⟩|⟨a',b'⟩<;>first|omega|(rw[a,a']at hs;exact absurd hs (by decide))
  rw[hn,nG (x:=x+y) rfl ?_ (fun _=>by show Ln (x+y)<=_;omega),ahr,kM,ahr]
  intro h0
  rcases sx with⟨a,b,c⟩|⟨a,b,c⟩|⟨a,b⟩<;>rcases sy with⟨a',b',c'⟩|⟨a',b',c'⟩|⟨a',b'⟩<;>(try (rw[a,a']at hs;exact absurd hs (by decide)))<;>rw[a,a']
  ·rw[zzp (by decide),aii (by omega)]
  ·rw[zzp (by decide),aii (by omega)]
  ·rw[zzp (by decide),aij (by omega)]
  ·rw[zzp (by decide),aij (by omega)]
  ·rw[zzn (by decide),aii (by omega)]
  ·rw[zzn (by decide),aij (by omega)]
  ·omega
 ·rw[zzn (by simpa using hs),Cq (by unfold Fit;omega) (by unfold Fit;omega),ahr]
  have hsg:x.sign=1∧y.sign = -1∧0<x∧y<0∨x.sign = -1∧y.sign=1∧x<0∧0<y:=by
   rcases sx with⟨a,b,c⟩|⟨a,b,c⟩|⟨a,b⟩<;>rcases sy with⟨a',b',c'⟩|⟨a',b',c'⟩|⟨a',b'⟩<;>first|exact .inl ⟨a,a',c,c'⟩|exact .inr ⟨a,a',c,c'⟩|(rw[a,a']at hs;exact absurd (by decide) hs)
  by_cases hlt:x.natAbs<y.natAbs
  ·have:su (x.natAbs:Int) y.natAbs<0:=by unfold su;rw[zzp (by omega)];decide
   rw[zzp (by simpa using this),sub_eq (dR _) (dR _) (by unfold Fit;omega) (eL (by omega)) (by rw[bY,bY];omega),ahr,bY,bY]
   rw[nG (x:=x+y) (by omega) ?_ (fun _=>by rw[show ((y.natAbs:Int)-x.natAbs).toNat=(x+y).natAbs by omega];show Ln (x+y)<=_;omega),ahr,kM,ahr]
   intro h0
   rcases hsg with⟨a,a',b,b'⟩|⟨a,a',b,b'⟩
   ·rw[a',aij (by omega)]
   ·rw[a',aii (by omega)]
  ·have:¬su (x.natAbs:Int) y.natAbs<0:=by unfold su;rw[zzn (by omega)];split<;>decide
   rw[zzn (by simpa using this),sub_eq (dR _) (dR _) (by unfold Fit;omega) (eL (by omega)) (by rw[bY,bY];omega),ahr,bY,bY]
   rw[nG (x:=x+y) (by omega) ?_ (fun _=>by rw[show ((x.natAbs:Int)-y.natAbs).toNat=(x+y).natAbs by omega];show Ln (x+y)<=_;omega),ahr,kM,ahr]
   intro h0
   rcases hsg with⟨a,a',b,b'⟩|⟨a,a',b,b'⟩
   ·rw[a,aii (by omega)]
   ·rw[a,aij (by omega)]
theorem ab4 {x y:Int} (hx:Ln x<=jE) (hy:Ln y<=jE):qK (il x) (il y)=some (il (x*y),0):=by
 have hL:jE=4398046511104:=rfl
 have hLa:=wB x y
 unfold qK
 rw[ie (by omega),ahr]
 simp only[ahk,ags,if_false]
 rw[ie (by omega),ahr,ahr]
 simp only[ahk,ags,if_false]
 have hxd:(il x).aa=bf x.natAbs:=rfl
 have hyd:(il y).aa=bf y.natAbs:=rfl
 have hxs:(il x).ae=x.sign:=rfl
 have hys:(il y).ae=y.sign:=rfl
 rw[hxd,hyd,hxs,hys]
 have fx:(bf x.natAbs).length<=4398046511104:=by show Ln x<=_;omega
 have fy:(bf y.natAbs).length<=4398046511104:=by show Ln y<=_;omega
 have hw:IntKind.i64.wrap (x.sign*y.sign)=(x*y).sign:=by
  rw[Int.sign_mul]
  apply jX
  rcases vt x with h|h|h<;>rcases vt y with g|g|g<;>rw[h,g]<;>decide
 rw[hw,mul_eq (dR _) (dR _) (by omega),ahr,bY,bY]
 have hn:((x.natAbs:Int)*y.natAbs).toNat=(x*y).natAbs:=by rw[aif,<- agQ];rfl
 rw[hn,nG (x:=x*y) rfl (fun _=>rfl) (fun _=>by show Ln (x*y)<=_;omega),ahr,kM,ahr]
theorem EV {x y:Int} (hx:Ln x<=jE) (hy:Ln y<=jE):du (il x) (il y)=some (il (x*y)):=by
 unfold du
 rw[ab4 hx hy];rfl
theorem Wo {x y:Int} (hx:Ln x<=jE) (hy:Ln y<=jE) (h0:0<y) (hd:y∣x):lK (il x) (il y)=some (il (x / y),il 0,0):=by
 have hL:jE=4398046511104:=rfl
 unfold lK
 rw[ie (by omega),ahr]
 simp only[ahk,ags,if_false]
 rw[ie (by omega),ahr,ahr]
 simp only[ahk,ags,if_false]
 have hxd:(il x).aa=bf x.natAbs:=rfl
 have hyd:(il y).aa=bf y.natAbs:=rfl
 have hxs:(il x).ae=x.sign:=rfl
 have hys:(il y).ae=1:=aii h0
 rw[hxd,hyd,hxs,hys]
 have fx:(bf x.natAbs).length<=4398046511104:=by show Ln x<=_;omega
 have fy:(bf y.natAbs).length<=4398046511104:=by show Ln y<=_;omega
 have fq:=eL (Nat.div_le_self x.natAbs y.natAbs)
 obtain⟨z,rfl⟩:=hd
 have hyz:y*z / y=z:=Int.mul_ediv_cancel_left _ (by omega)
 have hn:(y*z).natAbs=y.natAbs*z.natAbs:=aif _ _
 have hq:(y*z).natAbs / y.natAbs=z.natAbs:=by rw[hn,Nat.mul_div_cancel_left _ (by omega)]
 have hr:(y*z).natAbs % y.natAbs=0:=by rw[hn,Nat.mul_mod_right]
 have hsg:(y*z).sign=z.sign:=by rw[Int.sign_mul,aii h0,aid]
 rw[zzn (by decide),div_eq (by omega) (by omega) (by omega),ahr,ahY,hsg,jX (x:=z.sign) (by have:=vt z;omega),hyz,hq,hr,cR]
 rw[hq]at fq
 have hT:(if decide (z.sign<0)=true then some (decide ((([]:List Int).length:Int)>0)) else some false)=some false:=by split<;>rfl
 simp only[hT,Option.bind_some,ags,if_false]
 rw[nG (x:=z) rfl (fun _=>rfl) (fun _=>by omega),ahr]
 have:cy z.sign []=some (il 0):=vu 0 (by simp[Fit]) Dg.nil rfl (fun h=>absurd rfl h)
 rw[this,ahr]
def lg (n:Nat):Nat:=if n=0 then 0 else n.log2+1
theorem adG {r x:Nat} (h:2*r<x):lg r<lg x:=by
 unfold lg
 rw[zzn (show x≠0 by omega)]
 by_cases h0:r=0
 ·rw[zzp h0];omega
 ·rw[zzn h0]
  have h1:=Nat.log2_self_le h0
  have h2:=@Nat.lt_log2_self x
  have:2 ^ (r.log2+1)<2 ^ (x.log2+1):=by rw[Nat.pow_succ];omega
  have:=(Nat.pow_lt_pow_iff_right (by decide:1<2)).1 this
  omega
theorem abH {n k:Nat} (h:(n:Int)<pw k):lg n<=20*k:=by
 unfold lg
 by_cases h0:n=0
 ·rw[zzp h0];omega
 ·rw[zzn h0]
  have:n<2 ^ (20*k):=by
   have:pw k=((2 ^ (20*k):Nat):Int):=by
    unfold pw
    rw[Nat.pow_mul,Int.natCast_pow];rfl
   omega
  have:=(Nat.log2_lt h0).2 this
  omega
theorem XT {a b:Nat} (ha:(bf a).length<=sL) (hb:(bf b).length<=sL):bc nN (bf a,bf b)=some (bf (Nat.gcd a b)):=by
 have hL:sL=17592186043904:=rfl
 have key:∃r,bc nN (bf a,bf b)=some r∧r=bf (Nat.gcd a b):=by
  have la:=abH (iM a)
  have lb:=abH (iM b)
  let val:List Int->Nat:=fun l=>(dv l).toNat
  have hval:∀n,val (bf n)=n:=fun n=>by show (dv (bf n)).toNat=n;rw[bY];rfl
  refine DF (I:=fun (s:List Int×List Int)=>∃x y,s=(bf x,bf y)∧Nat.gcd x y=Nat.gcd a b∧(bf x).length<=sL∧(bf y).length<=sL)
   (μ:=fun (s:List Int×List Int)=>lg (val s.1)+lg (val s.2)+(if val s.1<val s.2 then 1 else 0)) _ ⟨a,b,rfl,rfl,ha,hb⟩ (by simp only[hval];unfold FU;split<;>omega) ?_
  rintro _ ⟨x,y,rfl,hg,hx,hy⟩
  simp only[nN]
  by_cases h0:y=0
  ·right
   subst h0
   refine⟨_,by rw[cR,zzn (by simp)],?_⟩
   rw[<- hg,Nat.gcd_zero_right]
  ·left
   have hne:0<(bf y).length:=ahH.2 (fun h=>h0 (sZ.1 h))
   rw[zzp (by simpa using hne),div_eq h0 (by omega) (by omega),ahr]
   have hlt:=Nat.mod_lt x (Nat.pos_of_ne_zero h0)
   refine⟨_,rfl,⟨y,x % y,rfl,?_,hy,?_⟩,?_⟩
   ·rw[<- hg,Nat.gcd_comm y,<- Nat.gcd_rec,Nat.gcd_comm]
   ·have:=eL (Nat.mod_le x y);omega
   ·simp only[hval]
    rw[zzn (by omega)]
    by_cases hxy:x<y
    ·rw[zzp hxy,agN hxy];omega
    ·rw[zzn hxy]
     have:lg (x % y)<lg x:=by
      apply adG
      have h1:=Nat.div_add_mod x y
      have h2:1<=x / y:=(Nat.one_le_div_iff (by omega)).2 (by omega)
      have h3:y*1<=y*(x / y):=Nat.mul_le_mul_left _ h2
      omega
     omega
 obtain⟨r,h1,rfl⟩:=key
 exact h1
theorem Wq {x y:Int} (hx:Ln x<=sL) (hy:Ln y<=sL):mR (il x) (il y)=some (il (Int.gcd x y),0):=by
 have hL:sL=17592186043904:=rfl
 unfold mR
 rw[ie (by omega),ahr]
 simp only[ahk,ags,if_false]
 rw[ie (by omega),ahr,ahr]
 simp only[ahk,ags,if_false]
 have hxd:(il x).aa=bf x.natAbs:=rfl
 have hyd:(il y).aa=bf y.natAbs:=rfl
 rw[hxd,hyd]
 have fx:(bf x.natAbs).length<=17592186043904:=by show Ln x<=_;omega
 have fy:(bf y.natAbs).length<=17592186043904:=by show Ln y<=_;omega
 have fg:(bf (Nat.gcd x.natAbs y.natAbs)).length<=17592186043904:=by
  by_cases h:y.natAbs=0
  ·rw[h,Nat.gcd_zero_right];exact fx
  ·have:=eL (Nat.gcd_le_right x.natAbs (Nat.pos_of_ne_zero h));omega
 rw[sV (by unfold Fit;omega),ahr,XT (by omega) (by omega),ahr,sV (by unfold Fit;omega),ahr]
 have hgn:Nat.gcd x.natAbs y.natAbs=((Int.gcd x y:Nat):Int).natAbs:=rfl
 rw[nG (x:=(Int.gcd x y:Int)) hgn ?_ (fun _=>by omega),ahr,kM,ahr]
 intro h
 rw[aii (by omega)]
theorem UE (x:Int):IntKind.u64.wrap x=x % 18446744073709551616:=by
 unfold IntKind.wrap
 simp only[IntKind.bits,IntKind.signed,ahO,ags,if_false]
 rfl
theorem wu {x:Int} (h:0<=x∧x<18446744073709551616):IntKind.u64.wrap x=x:=by rw[UE];omega
theorem UO {x:Int} (h:0<=x∧x<18446744073709551616):gn .and .u64 x 1048575=x % 1048576:=by
 unfold gn
 simp only
 have e1:(BitVec.ofInt IntKind.u64.bits x &&& BitVec.ofInt IntKind.u64.bits 1048575).toNat=((x % 18446744073709551616).toNat) % 1048576:=by
  rw[BitVec.toNat_and,BitVec.toNat_ofInt,BitVec.toNat_ofInt]
  have e:((1048575:Int) % ((2 ^ IntKind.u64.bits:Nat):Int)).toNat=2 ^ 20-1:=by decide
  rw[e,ah2]
  rfl
 rw[e1,wu (by omega)]
 omega
theorem acI (x:Int):sA .u64 x 20=some (x / 1048576):=by
 unfold sA
 rw[zzn (by decide)]
 have e:(2:Int) ^ (min (Int.toNat 20) IntKind.u64.bits)=1048576:=by decide
 rw[e,Int.fdiv_eq_ediv_of_nonneg _ (by decide)]
theorem pw4:pw 4=1208925819614629174706176:=by decide
theorem aaP {n:Nat} (hn:n<18446744073709551616):∃l,bc uq ((n:Int),[])=some l∧Dg l∧dv l=n∧l.length<=5:=by
 refine DF (I:=fun (s:Int×List Int)=>0<=s.1∧Dg s.2∧dv s.2+pw s.2.length*s.1=n∧s.2.length<=5∧(s.1=0∨s.2.length<5)) (μ:=fun (s:Int×List Int)=>s.1.toNat) _ ⟨by simp,Dg.nil,by simp[dv,rG],by simp,by simp⟩ (by simp only[Int.toNat_natCast];unfold FU;omega) ?_
 rintro⟨u,l⟩ ⟨h1,hd,h2,h3,h5⟩
 simp only at h1 hd h2 h3 h5
 have hp:=ox l.length
 have hdl:=cT hd
 have hu:u<=n:=by
  have:1*u<=pw l.length*u:=aie (by omega) h1
  omega
 simp only[uq]
 by_cases h0:u>0
 ·left
  have hl5:l.length<5:=by omega
  have hl4:l.length<4:=by
   rcases agD l.length 4 with h|h
   ·exact h
   ·have h4:l.length=4:=by omega
    rw[h4,pw4]at h2
    omega
  have hw:IntKind.i64.wrap (u % 1048576)=u % 1048576:=jX (by omega)
  rw[zzp (by simpa using h0),UO ⟨h1,by omega⟩,hw,K0 (by simp;omega),ahr,acI,ahr]
  refine⟨_,rfl,⟨by simp only;omega,hd.append (Dg.mk (by omega) Dg.nil),?_,by simp;omega,by right;simp;omega⟩,by simp only;omega⟩
  simp only[iU,dv,ag1,List.length_cons,List.length_nil,aic,Int.add_zero,agF]
  have:=zm l.length u
  omega
 ·right
  have:u=0:=by omega
  subst this
  refine⟨l,by rw[zzn (by simp)],hd,?_,h3⟩
  rw[aic]at h2
  omega
theorem abc {x:Int} (h : -9223372036854775808<=x∧x<9223372036854775808):pF x=some (il x):=by
 have hT:(if decide (x<0)=true then some ((-1:Int),IntKind.u64.wrap (0-(IntKind.u64.wrap x))) else some (1,IntKind.u64.wrap x))=some (if x<0 then -1 else 1,((x.natAbs:Nat):Int)):=by
  by_cases hx:x<0
  ·rw[zzp (by simpa using hx),zzp hx,UE,UE]
   congr 2
   omega
  ·rw[zzn (by simpa using hx),zzn hx,UE]
   congr 2
   omega
 obtain⟨l,h1,h2,h3,h4⟩:=aaP (n:=x.natAbs) (by omega)
 unfold pF
 rw[hT,ahr]
 simp only
 rw[h1,ahr,tG]
 refine vu x (by unfold Fit;omega) h2 h3 (fun h0 =>?_)
 split
 ·rw[aij (by omega)]
 ·rw[aii (by omega)]
theorem aff {d:Int} {i:Nat} (hi:i<=3) (hd:0<=d∧d<1048576) (h8:i=3->d<=8):FT .u64 (IntKind.u64.wrap d) (IntKind.i64.wrap (20*(i:Int)))=some (pw i*d):=by
 rw[wu (by omega),jX (by omega)]
 unfold FT
 rw[zzn (by omega)]
 have e:(2:Int) ^ (min (20*(i:Int)).toNat IntKind.u64.bits)=pw i:=by
  have:∀i:Nat,i<=3->(2:Int) ^ (min (20*(i:Int)).toNat IntKind.u64.bits)=pw i:=by decide
  exact this i hi
 rw[e,wu,ahX]
 rcases (show i=0∨i=1∨i=2∨i=3 by omega) with rfl|rfl|rfl|rfl
 ·rw[show pw 0=1 by decide];omega
 ·rw[show pw 1=1048576 by decide];omega
 ·rw[show pw 2=1099511627776 by decide];omega
 ·rw[show pw 3=1152921504606846976 by decide];have:=h8 rfl;omega
theorem adS {u d:Int} {i:Nat} (hi:i<=3) (hu:0<=u∧u<pw i) (hd:0<=d∧pw i*d<9223372036854775809):gn .or .u64 u (pw i*d)=u+pw i*d:=by
 have hp:=ox i
 have hpd:0<=pw i*d:=ah9 (by omega) hd.1
 have hpw:pw i=((2 ^ (20*i):Nat):Int):=by unfold pw;rw[Nat.pow_mul,Int.natCast_pow];rfl
 have hp3:pw i<=1152921504606846976:=by
  have:=rF hi
  rwa [show pw 3=1152921504606846976 by decide]at this
 unfold gn
 simp only
 have e1:(BitVec.ofInt IntKind.u64.bits u ||| BitVec.ofInt IntKind.u64.bits (pw i*d)).toNat=(u+pw i*d).toNat:=by
  rw[BitVec.toNat_or,BitVec.toNat_ofInt,BitVec.toNat_ofInt]
  have e:((2 ^ IntKind.u64.bits:Nat):Int)=18446744073709551616:=by decide
  rw[e]
  have e2:(u % 18446744073709551616).toNat=u.toNat:=by omega
  have e3:((pw i*d) % 18446744073709551616).toNat=d.toNat <<< (20*i):=by
   rw[Nat.shiftLeft_eq,Int.emod_eq_of_lt hpd (by omega),hpw]
   have:d=(d.toNat:Int):=by omega
   rw[this,<- agQ,agR,agR,agP]
  rw[e2,e3,Nat.or_comm,<- Nat.shiftLeft_add_eq_or_of_lt (by omega),Nat.shiftLeft_eq]
  have:pw i*d=((d.toNat*2 ^ (20*i):Nat):Int):=by
   rw[hpw,agQ,ahX]
   congr 1
   omega
  omega
 rw[e1,wu (by omega)]
 omega
theorem acA {g:Nat} (h:(bf g).length<=sL):oc (il g)=some (decide (g=1)):=by
 have hL:sL=17592186043904:=rfl
 have hgd:(il (g:Int)).aa=bf g:=rfl
 have hLn:Ln (g:Int)=(bf g).length:=rfl
 unfold oc
 have hsmall:g=1->(bf g).length<=4:=by
  rintro rfl
  exact afT (ko (k:=1) (by decide)) (by decide)
 suffices hI:∃r,qI (il g)=some r∧((if r.2=true then some (r.1==1) else some false)=some (decide (g=1))) by
  obtain⟨r,h1,h2⟩:=hI
  rw[h1,ahr,h2]
 unfold qI
 rw[ie (by rw[hLn];omega),ahr]
 simp only[ahk,ags,if_false,Option.bind_some,hgd]
 by_cases h4:(bf g).length>4
 ·rw[zzp (by simp;omega)]
  refine⟨_,rfl,?_⟩
  have:g≠1:=fun hh=>by have:=hsmall hh;omega
  simp[this]
 rw[zzn (by simp;omega)]
 have key:∃r,bc (qJ (il g)) (0,0)=some r∧(match r with | .inl u=>u=(g:Int) | .inr x=>x=(0,false)∧g≠1):=by
  refine ez (I:=fun i s=>s.2=(i:Int)∧s.1=dv ((bf g).take i)) (bf g).length _ ⟨rfl,rfl⟩ (mM (by omega)) ?_
  rintro i ⟨u,s⟩ hi ⟨h1,h2⟩
  simp only at h1 h2
  subst h1 h2
  simp only[qJ,hgd]
  have hdg:=(dR g).take i
  have hu0:=cT hdg
  have hu1:=oP hdg
  rw[aga,ag4 hi]at hu1
  by_cases hlt:i<(bf g).length
  ·have gd:=(dR g).get hlt
   rw[zzp (by simpa using hlt),cN hlt,ahr]
   have hT:(if ((i:Int)==3)=true then some (decide ((bf g)[i]>8)) else some false)=some (decide (i=3∧(bf g)[i]>8)):=by
    by_cases h3:i=3
    ·subst h3;simp
    ·rw[zzn (by simp;omega)];simp[h3]
   rw[hT,ahr]
   by_cases h8:i=3∧(bf g)[i]>8
   ·right
    rw[zzp (by simpa using h8)]
    refine⟨.inr (0,false),rfl,rfl,?_⟩
    rintro rfl
    have:=ko (n:=1) (k:=1) (by decide)
    omega
   ·left
    rw[zzn (by simpa using h8),aff (by omega) gd (by omega),ahr]
    have hb:pw i*(bf g)[i]<9223372036854775809:=by
     rcases (show i=0∨i=1∨i=2∨i=3 by omega) with h|h|h|h
     ·have:pw i=1:=by rw[h];decide
      rw[this];omega
     ·have:pw i=1048576:=by rw[h];decide
      rw[this];omega
     ·have:pw i=1099511627776:=by rw[h];decide
      rw[this];omega
     ·have:pw i=1152921504606846976:=by rw[h];decide
      rw[this];omega
    rw[adS (by omega) ⟨hu0,hu1⟩ ⟨gd.1,hb⟩]
    exact⟨hlt,_,rfl,by rw[jX (by omega)];omega,by rw[iV hlt]⟩
  ·right
   have:i=(bf g).length:=by omega
   subst this
   exact⟨.inl (dv ((bf g).take (bf g).length)),by rw[zzn (by simp)],by rw[ahS,bY]⟩
 obtain⟨r,h1,h2⟩:=key
 rw[h1,ahr]
 cases r with
 | inr x=>obtain⟨rfl,h⟩:=h2;exact⟨_,rfl,by simp[h]⟩
 | inl u =>
  simp only at h2
  subst h2
  have hs:(il (g:Int)).ae=(g:Int).sign:=rfl
  have hs0:¬(g:Int).sign<0:=by have:=oD (g:Int);omega
  simp only[hs]
  rw[zzn (by simp),ahr,zzn (by simp),zzp (by simp)]
  by_cases hg:(g:Int)<9223372036854775808
  ·rw[zzp (by simpa using hg)]
   refine⟨_,rfl,?_⟩
   simp only[if_true]
   rw[wrap64 (by omega) hg]
   congr 1
   by_cases h:g=1
   ·subst h;rfl
   ·have:¬((g:Int)=1):=by omega
    simp[h,this]
  ·rw[zzn (by simpa using hg)]
   have:g≠1:=by omega
   exact⟨_,rfl,by simp[this]⟩
def mN (q:Rat):ao:=ao.mk (il q.num) (il q.den)
def LF (q:Rat):Nat:=max (Ln q.num) (Ln q.den)
theorem aaG {p q:Rat} (h:mN p=mN q):p=q:=by
 unfold mN at h
 simp only[ao.mk.injEq]at h
 have h1:=Tx h.1
 have h2:=Tx h.2
 exact Rat.ext h1 (by omega)
def okF (f:ao):Bool:=okB f.aZ&&okB f.aY&&(f.aY.ae==1)&&decide (Nat.gcd (dv f.aZ.aa).toNat (dv f.aY.aa).toNat=1)
theorem Kd {f:ao} : okF f=true↔∃q,f=mN q:=by
 obtain⟨p,q⟩:=f
 unfold okF
 simp only[agt,beq_iff_eq,decide_eq_true_eq]
 constructor
 ·rintro⟨⟨⟨h1,h2⟩,h3⟩,h4⟩
  obtain⟨x,rfl⟩:=yc.1 h1
  obtain⟨y,rfl⟩:=yc.1 h2
  have hy:0<y:=by
   have:y.sign=1:=h3
   rcases oD y with⟨a,b,c⟩|⟨a,b,c⟩|⟨a,b⟩<;>omega
  have h5:(dv (il x).aa).toNat=x.natAbs:=by show (dv (bf _)).toNat=_;rw[bY];rfl
  have h6:(dv (il y).aa).toNat=y.natAbs:=by show (dv (bf _)).toNat=_;rw[bY];rfl
  rw[h5,h6]at h4
  refine⟨⟨x,y.natAbs,by omega,h4⟩,?_⟩
  unfold mN
  simp only
  congr 2
  omega
 ·rintro⟨q,hq⟩
  unfold mN at hq
  simp only[ao.mk.injEq]at hq
  obtain⟨rfl,rfl⟩:=hq
  have hd:=q.den_pos
  refine⟨⟨⟨Q3 _,Q3 _⟩,aii (by omega)⟩,?_⟩
  have h5:(dv (il q.num).aa).toNat=q.num.natAbs:=by show (dv (bf _)).toNat=_;rw[bY];rfl
  have h6:(dv (il (q.den:Int)).aa).toNat=q.den:=by show (dv (bf _)).toNat=_;rw[bY];rfl
  rw[h5,h6]
  exact q.reduced
theorem Yx (q:Rat):okF (mN q)=true:=Kd.2 ⟨q,rfl⟩
def abZ (f:ao):Prop:=f.aZ.aa.length<=sL∧f.aY.aa.length<=sL
theorem aag {q:Rat} (h:LF q<=jE):abZ (mN q):=by
 unfold LF at h
 exact⟨xa (show Ln q.num<=_ by omega),xa (show Ln q.den<=_ by omega)⟩
theorem KT {f:ao} (hf:abZ f):cz f=some (okF f):=by
 have hL:sL=17592186043904:=rfl
 obtain⟨p,q⟩:=f
 simp only[abZ]at hf
 unfold cz okF
 rw[EF (show Fit p.aa by unfold Fit;omega),ahr]
 by_cases h1:okB p=true
 ·simp only[h1,ahk,ags,if_false,ahl]
  rw[EF (show Fit q.aa by unfold Fit;omega),ahr]
  by_cases h2:okB q=true
  ·simp only[h2,ahk,ags,if_false,ahl,Option.bind_some]
   by_cases h3:q.ae=1
   ·rw[zzn (by simp[h3])]
    obtain⟨x,rfl⟩:=yc.1 h1
    obtain⟨y,rfl⟩:=yc.1 h2
    rw[Wq hf.1 hf.2,ahr]
    simp only[beq_self_eq_true,if_true]
    have h5:(dv (il x).aa).toNat=x.natAbs:=by show (dv (bf _)).toNat=_;rw[bY];rfl
    have h6:(dv (il y).aa).toNat=y.natAbs:=by show (dv (bf _)).toNat=_;rw[bY];rfl
    rw[acA,ahr,h5,h6]
    ·rw[h3];rfl
    ·have hy:0<y.natAbs:=by
      have:y.sign=1:=h3
      rcases oD y with⟨a,b,c⟩|⟨a,b,c⟩|⟨a,b⟩<;>omega
     have:=eL (Nat.gcd_le_right x.natAbs hy)
     have h7:(bf y.natAbs).length<=sL:=hf.2
     show (bf (Nat.gcd x.natAbs y.natAbs)).length<=_
     omega
   ·rw[zzp (by simpa using h3)]
    simp[h3]
  ·simp only[h2,ahP,if_true,Option.bind_some,ahO]
 ·simp only[h1,ahP,if_true,Option.bind_some,ahO]
theorem sM {q:Rat} (h:LF q<=jE):cz (mN q)=some true:=by rw[KT (aag h),Yx]
theorem ab5 {p q:Int} (hp:Ln p<=jE) (hq:Ln q<=jE) (h0:q≠0):kQ (il p) (il q)=some (mN (Rat.divInt p q),0):=by
 have hL:jE=4398046511104:=rfl
 have main:∀ {p q:Int},Ln p<=jE->Ln q<=jE->0<q ->
   ((mR (il p) (il q)).bind fun r6=>(lK (il p) r6.1).bind fun r7=>(lK (il q) r6.1).bind fun r8=>some ((ao.mk r7.1 r8.1),(0:Int)))=some (mN (Rat.divInt p q),0):=by
  intro p q hp hq h0
  have hg:0<Int.gcd p q:=Int.gcd_pos_of_ne_zero_right _ (by omega)
  have hgl:Ln (Int.gcd p q:Int)<=jE:=by
   have:=eL (Nat.gcd_le_right p.natAbs (show 0<q.natAbs by omega))
   show (bf (Nat.gcd p.natAbs q.natAbs)).length<=_
   have h7:(bf q.natAbs).length<=jE:=hq
   omega
  rw[Wq (xa hp) (xa hq),ahr]
  simp only
  rw[Wo hp hgl (by omega) (Int.gcd_dvd_left ..),ahr,Wo hq hgl (by omega) (Int.gcd_dvd_right ..),ahr]
  have hd:((q.natAbs / Int.gcd p q:Nat):Int)=q / (Int.gcd p q:Int):=by
   rw[Int.natCast_ediv]
   congr 1
   omega
  unfold mN
  rw[Rat.num_divInt,Rat.den_divInt,zzn (by omega),aii h0,aid,Int.gcd_comm q p,hd]
 unfold kQ
 rw[ie (by omega),ahr]
 simp only[ahk,ags,if_false]
 rw[ie (by omega),ahr,ahr]
 simp only[ahk,ags,if_false]
 have hqs:(il q).ae=q.sign:=rfl
 rw[hqs]
 rcases oD q with⟨a,b,c⟩|⟨a,b,c⟩|⟨a,b⟩
 ·rw[zzn (by rw[a];decide),zzn (by rw[a];decide),ahr]
  exact main hp hq c
 ·rw[zzn (by rw[a];decide),zzp (by rw[a];decide),PM hp,ahr,PM hq,ahr,ahr]
  have:=main (p := -p) (q := -q) (by rw[PL];exact hp) (by rw[PL];exact hq) (by omega)
  rw[Rat.neg_divInt_neg]at this
  exact this
 ·exact absurd b h0
theorem BR (q:Rat):Ln q.num<=LF q:=by unfold LF;omega
theorem Jj (q:Rat):Ln q.den<=LF q:=by unfold LF;omega
theorem UL {p q:Int} (h0:q≠0):LF (Rat.divInt p q)<=max (Ln p) (Ln q):=by
 have hg:0<Int.gcd q p:=Int.gcd_pos_of_ne_zero_left _ h0
 have h1:Ln (Rat.divInt p q).num<=Ln p:=by
  apply R7
  rw[Rat.num_divInt]
  obtain⟨z,hz⟩:(Int.gcd q p:Int)∣q.sign*p:=Int.dvd_mul_of_dvd_right (Int.gcd_dvd_right ..)
  rw[hz,Int.mul_ediv_cancel_left _ (by omega)]
  have h2:(q.sign*p).natAbs=p.natAbs:=by
   rw[aif]
   have:q.sign.natAbs=1:=by
    rcases oD q with⟨a,b,c⟩|⟨a,b,c⟩|⟨a,b⟩
    ·rw[a];rfl
    ·rw[a];rfl
    ·exact absurd b h0
   rw[this,Nat.one_mul]
  rw[<- h2,hz,aif]
  exact Nat.le_mul_of_pos_left _ (by omega)
 have h2:Ln ((Rat.divInt p q).den:Int)<=Ln q:=by
  apply R7
  rw[Rat.den_divInt,zzn h0]
  exact Nat.div_le_self _ _
 unfold LF
 omega
theorem adh {a b:Rat} (h:LF a+LF b+1<=jE):mj (mN a) (mN b)=some (mN (a+b),0):=by
 have n1:=BR a
 have n2:=BR b
 have d1:=Jj a
 have d2:=Jj b
 have m1:=wB a.num b.den
 have m2:=wB b.num a.den
 have m3:=wB a.den b.den
 have m4:=PJ (a.num*b.den) (b.num*a.den)
 unfold mj
 rw[sM (by omega),ahr]
 simp only[ahk,ags,if_false]
 rw[sM (by omega),ahr,ahr]
 simp only[ahk,ags,if_false]
 show (du (il a.num) (il b.den)).bind _=_
 rw[EV (by omega) (by omega),ahr]
 show (du (il b.num) (il a.den)).bind _=_
 rw[EV (by omega) (by omega),ahr,abY (by omega) (by omega),ahr]
 show (du (il a.den) (il b.den)).bind _=_
 have hden:(a.den:Int)*b.den≠0:=by
  rw[<- agQ]
  have:=Nat.mul_pos a.den_pos b.den_pos
  omega
 rw[EV (by omega) (by omega),ahr,ab5 (by omega) (by omega) hden,ahr]
 rw[Rat.add_def',<- Rat.divInt_ofNat,agQ]
theorem ab1 (a b:Rat):LF (a+b)<=LF a+LF b+1:=by
 have n1:=BR a
 have n2:=BR b
 have d1:=Jj a
 have d2:=Jj b
 have m1:=wB a.num b.den
 have m2:=wB b.num a.den
 have m3:=wB a.den b.den
 have m4:=PJ (a.num*b.den) (b.num*a.den)
 have hden:(a.den:Int)*b.den≠0:=by
  rw[<- agQ]
  have:=Nat.mul_pos a.den_pos b.den_pos
  omega
 rw[Rat.add_def',<- Rat.divInt_ofNat,agQ]
 have:=UL (p:=a.num*b.den+b.num*a.den) hden
 omega
theorem Ws (a:Rat):LF (-a)=LF a:=by unfold LF;rw[Rat.neg_num,Rat.neg_den,PL]
theorem ab3 (a b:Rat):LF (a-b)<=LF a+LF b+1:=by
 rw[Rat.sub_eq_add_neg]
 have:=ab1 a (-b)
 rw[Ws]at this
 exact this
theorem adn {a b:Rat} (h:LF a+LF b+1<=jE):oa (mN a) (mN b)=some (mN (a-b),0):=by
 unfold oa
 rw[sM (by omega),ahr]
 simp only[ahk,ags,if_false]
 rw[sM (by omega),ahr,ahr]
 simp only[ahk,ags,if_false]
 show (lL (il b.num)).bind _=_
 have n2:=BR b
 rw[PM (by omega),ahr]
 have e:ao.mk (il (-b.num)) (mN b).aY=mN (-b):=by unfold mN;rw[Rat.neg_num,Rat.neg_den]
 rw[e,adh (by rw[Ws];exact h),ahr,Rat.sub_eq_add_neg]
theorem adj {n:Int} (h : -9223372036854775808<=n∧n<9223372036854775808):jH n=some (mN n):=by
 unfold jH
 rw[abc h,ahr,abc (by decide),ahr]
 unfold mN
 rw[Rat.num_intCast,Rat.den_intCast]
 rfl
theorem ab2 {n:Int} (h:n.natAbs<1048576):LF (n:Rat)<=1:=by
 unfold LF
 rw[Rat.num_intCast,Rat.den_intCast]
 have h1:=KR h
 have h2:=KR (x:=((1:Nat):Int)) (by decide)
 omega
theorem Jm {a:Rat} (h:LF a<=jE):eD (mN a)=some a.num.sign:=by
 unfold eD
 rw[sM h,ahr]
 rfl
instance:DecidableEq ak:=fun a b=>decidable_of_iff (a.ae=b.ae∧a.aa=b.aa) (by cases a;cases b;simp)
instance:DecidableEq ao:=fun a b=>decidable_of_iff (a.aZ=b.aZ∧a.aY=b.aY) (by cases a;cases b;simp)
theorem ae6 (f:ao) (n:Int):rO f n=some (decide ((f.aZ.aa.length:Int)<=n∧(f.aY.aa.length:Int)<=n)):=by
 unfold rO
 by_cases h:(f.aZ.aa.length:Int)<=n
 ·rw[zzp (by simpa using h)];simp[h]
 ·rw[zzn (by simpa using h)];simp[h]
theorem X2 {σ ρ:Type} {body:σ->Option (σ⊕ρ)} {n:Nat} {s s':σ} (h:body s=some (.inl s')):mL body (n+1) s=mL body n s':=by simp only[mL,h]
theorem Du {σ ρ:Type} {body:σ->Option (σ⊕ρ)} {n:Nat} {s:σ} {r:ρ} (h:body s=some (.inr r)):mL body (n+1) s=some r:=by simp only[mL,h]
theorem fJ {i:Nat} (h:i<4611686018427387904):IntKind.i64.wrap ((i:Int)+1)=((i+1:Nat):Int):=by rw[wrap64 (by omega) (by omega)];omega
theorem ee {α:Type} {l:List α} {i:Nat} {x:α} (h:l[i]? = some x):P.idx l (i:Int)=some x:=M4 (by omega) (by simpa using h)
theorem fQ {α:Type} {l:List α} {i:Nat} {x:α} (h:l[i]? = some x):i<l.length:=(agl.1 h).1
theorem drop_cons {α:Type} {l rest:List α} {i:Nat} {x:α} (h:l.drop i=x::rest):i<l.length∧l[i]? = some x∧l.drop (i+1)=rest:=by
 have hi:i<l.length:=by
  rcases agD i l.length with h1|h1
  ·exact h1
  ·rw[ahD h1]at h;cases h
 rw[ahM hi]at h
 simp only[agf]at h
 exact⟨hi,by rw[af4 hi,h.1],h.2⟩
def j8 {α ρ:Type} (st:Nat->α->Option ρ):Nat->List α->Option ρ
 | _,[]=>none
 | i,x::l=>match st i x with|some r=>some r|none=>j8 st (i+1) l
theorem mi {α ρ:Type} {st:Nat->α->Option ρ} : ∀ {l:List α} {i:Nat},j8 st i l=none↔∀(j:Nat) x,l[j]? = some x->st (i+j) x=none
 | [],i=>by simp[j8]
 | x::l,i=>by
  simp only[j8]
  constructor
  ·intro h j y hj
   cases hs:st i x with
   | some r=>rw[hs]at h;cases h
   | none =>
    rw[hs]at h
    cases j with
    | zero=>simp only[List.getElem?_cons_zero,af0]at hj;subst hj;exact hs
    | succ j =>
     have:=mi.1 h j y (by simpa using hj)
     rw[<- this];congr 1;omega
  ·intro h
   have h0:=h 0 x rfl
   simp only[Nat.add_zero]at h0
   rw[h0]
   refine mi.2 fun j y hj =>?_
   have:=h (j+1) y (by simpa using hj)
   rw[<- this];congr 1;omega
theorem oR {α ρ:Type} {st:Nat->α->Option ρ} {r:ρ} : ∀ {l:List α} {i:Nat},j8 st i l=some r->∃(j:Nat) (x:α),l[j]? = some x∧st (i+j) x=some r∧∀(k:Nat) y,k<j->l[k]? = some y->st (i+k) y=none
 | [],i,h=>by cases h
 | x::l,i,h=>by
  simp only[j8]at h
  cases hs:st i x with
  | some r' =>
   rw[hs]at h
   exact⟨0,x,rfl,by rw[agr,hs];exact h,fun k y hk=>by omega⟩
  | none =>
   rw[hs]at h
   obtain⟨j,y,h1,h2,h3⟩:=oR h
   refine⟨j+1,y,by simpa using h1,by rw[<- h2];congr 1;omega,fun k z hk hz =>?_⟩
   cases k with
   | zero=>simp only[List.getElem?_cons_zero,af0]at hz;subst hz;exact hs
   | succ k =>
    have:=h3 k z (by omega) (by simpa using hz)
    rw[<- this];congr 1;omega
theorem TT {α ρ:Type} (l:List α) {body:Int->Option (Int⊕(Unit⊕ρ))} (st:Nat->α->Option ρ) (hlen:l.length<4611686018427387904)
  (hb:∀(i:Nat) x,l[i]? = some x->body (i:Int)=some (match st i x with|none =>.inl ((i+1:Nat):Int)|some r =>.inr (.inr r))) (he:body (l.length:Int)=some (.inr (.inl ()))) :
  bc body 0=some (match j8 st 0 l with|none =>.inl ()|some r =>.inr r):=by
 have key:∀(rest:List α) (i fuel:Nat),i<=l.length->l.drop i=rest->rest.length<fuel->mL body fuel (i:Int)=some (match j8 st i rest with|none =>.inl ()|some r =>.inr r):=by
  intro rest
  induction rest with
  | nil =>
   intro i fuel hi hd hf
   obtain⟨f,rfl⟩:∃f,fuel=f+1:=⟨fuel-1,by simp at hf;omega⟩
   have hle:l.length<=i:=by
    have:=congrArg List.length hd
    simp at this
    omega
   have:i=l.length:=by omega
   subst this
   rw[Du he]
   rfl
  | cons x rest ih =>
   intro i fuel hi hd hf
   obtain⟨f,rfl⟩:∃f,fuel=f+1:=⟨fuel-1,by simp at hf;omega⟩
   obtain⟨h1,h2,h3⟩:=drop_cons hd
   have:=hb i x h2
   cases hs:st i x with
   | some r =>
    rw[hs]at this
    rw[Du this]
    simp only[j8,hs]
   | none =>
    rw[hs]at this
    rw[X2 this,ih (i+1) f h1 h3 (by simp at hf;omega)]
    simp only[j8,hs]
 exact key l 0 FU (afS _) rfl (by have:FU=1000000000000000000000000:=rfl;omega)
theorem Qg {α σ ρ:Type} {body:Int×σ->Option ((Int×σ)⊕ρ)} (l:List α) (hl:l.length<=17592186044416) (inv:Nat->σ->Prop) (Q:ρ->Prop) {s0:σ} (h0:inv 0 s0)
  (hstep:∀(i:Nat) x s,l[i]? = some x->inv i s->∃s',body ((i:Int),s)=some (.inl (((i+1:Nat):Int),s'))∧inv (i+1) s')
  (hend:∀s,inv l.length s->∃r,body ((l.length:Int),s)=some (.inr r)∧Q r):∃r,bc body ((0:Int),s0)=some r∧Q r:=by
 refine ez (fun i s=>s.1=(i:Int)∧inv i s.2) l.length Q ⟨rfl,h0⟩ (mM hl) ?_
 rintro i ⟨k,s⟩ hi ⟨rfl,hI⟩
 rcases agD i l.length with h|h
 ·obtain⟨s',h1,h2⟩:=hstep i _ s (af4 h) hI
  exact .inl ⟨h,_,h1,rfl,h2⟩
 ·have:i=l.length:=by omega
  subst this
  exact .inr (hend s hI)
theorem cV {α:Type} {N j:Nat} (f:Nat->α) (h:j<N):((List.range N).map f)[j]? = some (f j):=by simp[h]
theorem lA {α:Type} {l:List α} {N:Nat} {f:Nat->α} (hl:l.length=N) (h:∀j,j<N->l[j]? = some (f j)):l=(List.range N).map f:=by
 apply ahV
 intro j
 by_cases hj:j<N
 ·rw[h j hj,cV f hj]
 ·rw[aht (by omega),aht (by simp;omega)]
theorem nF {α:Type} {N i:Nat} (f:Nat->α) (v:α):((List.range N).map f).set i v=(List.range N).map fun j=>if j=i then v else f j:=by
 refine lA (by simp) fun j hj =>?_
 rw[List.getElem?_set]
 by_cases h:i=j
 ·subst h
  rw[zzp rfl,zzp (by simpa using hj)]
  simp
 ·rw[zzn h,cV f hj,zzn (fun e=>h e.symm)]
theorem DC {α β:Type} {mk:β->α} {R:β->Prop} : ∀ {l:List α},(∀x∈l,∃y,x=mk y∧R y)->∃ys:List β,l=ys.map mk∧∀y∈ys,R y
 | [],_=>⟨[],rfl,fun _ h=>by cases h⟩
 | x::l,h=>by
  obtain⟨y,h1,h2⟩:=h x (aho ..)
  obtain⟨ys,h3,h4⟩:=DC (l:=l) fun z hz=>h z (ahp _ hz)
  refine⟨y::ys,by rw[afX,<- h1,<- h3],fun z hz =>?_⟩
  rcases afY.1 hz with rfl|hz
  ·exact h2
  ·exact h4 z hz
theorem Kk {α:Type} {R:α->α->Prop} (ht:∀a b c,R a b->R b c->R a c) {l:List α} (h:∀(i:Nat) a b,l[i]? = some a->l[i+1]? = some b->R a b):l.Pairwise R:=by
 rw[ahW]
 intro i j hi hj hij
 obtain⟨d,rfl⟩:∃d,j=i+1+d:=⟨j-(i+1),by omega⟩
 clear hij
 induction d with
 | zero=>exact h i _ _ (af4 hi) (af4 hj)
 | succ d ih=>exact ht _ _ _ (ih (by omega)) (h (i+1+d) _ _ (af4 (by omega)) (af4 hj))
abbrev Tk:=Nat×Nat×Rat
def xR (t:Tk):bJ:=bJ.mk (t.1:Int) (t.2.1:Int) (mN t.2.2)
def mO (N:Nat) (tk:List Tk):cu:=cu.mk (N:Int) (tk.map xR)
theorem aaJ {a b:Tk} (h:xR a=xR b):a=b:=by
 unfold xR at h
 injection h with h1 h2 h3
 exact Prod.ext (by omega) (Prod.ext (by omega) (aaG h3))
theorem aaH {N M:Nat} {a b:List Tk} (h:mO N a=mO M b):N=M∧a=b:=by
 unfold mO at h
 injection h with h1 h2
 refine⟨by omega,?_⟩
 exact List.map_inj_right (f:=xR) (fun x y h=>aaJ h) |>.1 h2
def Ei:List Tk->Nat->Rat
 | [],_=>0
 | t::l,p=>(if t.1=p then t.2.2 else 0)+Ei l p
theorem OH (a b:List Tk) (p:Nat):Ei (a++b) p=Ei a p+Ei b p:=by
 induction a with
 | nil=>rw[ahA,Ei,Rat.zero_add]
 | cons t a ih=>rw[ahJ,Ei,Ei,ih];grind
def df (tk:List Tk) (p:Nat):Rat:=1-Ei tk p
theorem Dy {tk:List Tk} {i:Nat} {t:Tk} (h:tk[i]? = some t) (p:Nat):df (tk.take (i+1)) p=df (tk.take i) p-(if t.1=p then t.2.2 else 0):=by
 obtain⟨hi,he⟩:=agl.1 h
 unfold df
 rw[ain hi,OH,he]
 simp only[Ei]
 grind
theorem Jl {tk:List Tk} {K:Nat} (hs:∀t∈tk,LF t.2.2<=K) (p:Nat):∀i,i<=tk.length->LF (df (tk.take i) p)<=1+i*(K+1)
 | 0,_=>by
  have:df (tk.take 0) p=((1:Int):Rat):=by unfold df;rw[ahN,Ei];grind
  rw[this]
  exact afT (ab2 (n:=1) (by decide)) (by omega)
 | i+1,h=>by
  have ih:=Jl hs p i (by omega)
  have hg:tk[i]? = some tk[i]:=af4 (by omega)
  rw[Dy hg]
  have hk:=hs _ (af3 (show i<tk.length by omega))
  rw[agO]
  split
  ·have:=ab3 (df (tk.take i) p) tk[i].2.2
   omega
  ·rw[show ∀x:Rat,x-0=x by intro x;grind]
   omega
theorem BQ {tk:List Tk} {K:Nat} (hs:∀t∈tk,LF t.2.2<=K) (p:Nat):LF (df tk p)<=1+tk.length*(K+1):=by
 have:=Jl hs p tk.length (afR _)
 rwa [ahS]at this
theorem Tz {α:Type} {N B:Nat} (z:α) (h:N*B<=140737488355328) (h2:N<=2000):FJ B (N:Int) (N:Int) z=some (List.replicate N z):=by
 unfold FJ
 have:(2000:Nat)<=maxLen:=by decide
 rw[zzp ⟨by omega,by omega,by omega,by simpa using h⟩]
 simp
theorem ae7:jH 1=some (mN 1):=adj (n:=1) (by decide)
theorem Dz {N K:Nat} {tk:List Tk} (hN:N<=2000) (hlen:tk.length<=8000) (hf:∀t∈tk,t.1<N) (hK:K<=1000000) (hs:∀t∈tk,LF t.2.2<=K) :
  jf (mO N tk)=some ((List.range N).map fun p=>mN (df tk p)):=by
 unfold jf mO
 simp only
 rw[Tz _ (by omega) hN,ahr]
 have h1:∃r,bc (kV (List.replicate N (ao.mk (ak.mk 0 []) (ak.mk 0 [])))) ((0:Int),List.replicate N (ao.mk (ak.mk 0 []) (ak.mk 0 [])))=some r∧r=(List.range N).map fun p=>mN (df (tk.take 0) p):=by
  refine Qg (List.replicate N (ao.mk (ak.mk 0 []) (ak.mk 0 []))) (by simp;omega) (fun i l=>l.length=N∧∀j,j<i->l[j]? = some (mN 1)) _ ⟨by simp,fun j hj=>by omega⟩ ?_ ?_
  ·rintro i x l hx ⟨hl,hI⟩
   have hi:i<N:=by have:=fQ hx;simpa using this
   have hg:l[i]? = some l[i]:=af4 (by omega)
   refine⟨l.set i (mN 1),?_,by simpa using hl,fun j hj =>?_⟩
   ·simp only[kV]
    rw[zzp (by simp;omega),ae7,ahr,ee hg,ahr,fJ (by omega),agR]
   ·rw[List.getElem?_set]
    by_cases h:i=j
    ·rw[zzp h,zzp (by omega)]
    ·rw[zzn h];exact hI j (by omega)
  ·rintro l ⟨hl,hI⟩
   refine⟨l,?_,?_⟩
   ·simp only[kV];rw[zzn (by simp)]
   ·rw[List.length_replicate]at hI
    refine lA hl fun j hj =>?_
    rw[hI j hj,ahN]
    congr 2
    unfold df Ei;grind
 obtain⟨r,h1,rfl⟩:=h1
 rw[h1,ahr]
 have h2:∃r,bc (kW (cu.mk (N:Int) (tk.map xR))) ((0:Int),(List.range N).map fun p=>mN (df (tk.take 0) p))=some r∧r=(List.range N).map fun p=>mN (df tk p):=by
  refine Qg tk (by omega) (fun i l=>l=(List.range N).map fun p=>mN (df (tk.take i) p)) _ rfl ?_ ?_
  ·rintro i t _ ht rfl
   have hi:=fQ ht
   have hm:=agk ht
   have hfr:=hf t hm
   have hg:(tk.map xR)[i]? = some (xR t):=by rw[afO,ht];rfl
   refine⟨_,?_,rfl⟩
   simp only[kW]
   have hLF:=Jl hs t.1 i (by omega)
   have hkt:=hs t hm
   have hmul:i*(K+1)<=8000*1000001:=Nat.mul_le_mul (by omega) (by omega)
   rw[zzp (by simp;omega),ee hg,ahr]
   simp only[xR]
   rw[ee (cV _ hfr),ahr,adn (by unfold jE;omega),ahr,fJ (by omega),agR,nF]
   congr 3
   refine congrArg (fun f=>(List.range N).map f) (funext fun p =>?_)
   rw[Dy ht]
   by_cases h:p=t.1
   ·subst h;rw[zzp rfl,zzp rfl]
   ·rw[zzn h,zzn (fun e=>h e.symm)]
    congr 1;grind
  ·rintro _ rfl
   refine⟨_,?_,rfl⟩
   simp only[kW]
   rw[zzn (by simp),ahS]
 obtain⟨r,h2,rfl⟩:=h2
 rw[h2,ahr]
def ltT (a b:Tk):Prop:=a.1<b.1∨(a.1=b.1∧a.2.1<b.2.1)
theorem Vq (a b c:Tk) (h:ltT a b) (k:ltT b c):ltT a c:=by unfold ltT at *;omega
structure pD (N:Nat) (tk:List Tk):Prop where
 ports:N<=2000
 takes:tk.length<=8000
 ok:∀t∈tk,t.1<N∧t.2.1<N∧0<t.2.2
 sorted:tk.Pairwise ltT
 leak:∀p,p<N->0<=df tk p
theorem vx (a b c:Int):da a b c=some (decide (b<=a∧a<=c)):=by
 unfold da
 by_cases h1:a>=b<;>by_cases h2:a<=c<;>simp[h1,h2]
theorem UR (a b:bJ):∃c,kd a b=some c∧(c<0↔(a.bT<b.bT∨(a.bT=b.bT∧a.gA<b.gA))):=by
 unfold kd
 rw[Jt,ahr,Jt,ahr,abd,ahr]
 refine⟨_,rfl,?_⟩
 unfold su
 split<;>split<;>(try split)<;>(try split)<;>simp at *<;>omega
theorem BI {q:Rat} : q.num.sign<0↔q<0:=by
 rw[Int.sign_neg_iff,<- Rat.not_le,<- Rat.num_nonneg]
 omega
theorem yB {q:Rat} : q.num.sign=0↔q=0:=by
 rw[Int.sign_eq_zero_iff_zero,Rat.num_eq_zero]
theorem BJ {q:Rat} : 0<q.num.sign↔0<q:=by
 constructor
 ·intro h
  have h1:¬q<0:=fun h'=>by have:=BI.2 h';omega
  have h2:q≠0:=fun h'=>by have:=yB.2 h';omega
  grind
 ·intro h
  have h1:¬q.num.sign<0:=fun h'=>by have:=BI.1 h';grind
  have h2:q.num.sign≠0:=fun h'=>by have:=yB.1 h';grind
  omega
theorem Jk {q:Rat} {k:Nat} (h1:(mN q).aZ.aa.length<=k) (h2:(mN q).aY.aa.length<=k):LF q<=k:=by
 unfold LF Ln
 exact Nat.max_le.2 ⟨h1,h2⟩
theorem SN {q:Rat} {k:Nat} (h:LF q<=k):(mN q).aZ.aa.length<=k∧(mN q).aY.aa.length<=k:=by
 unfold LF Ln at h
 exact Nat.max_le.1 h
theorem Cr {l:List Rat} (hl:l.length<=17592186044416) (hs:∀q∈l,LF q<=jE):bC (l.map mN)=some (decide (∃q∈l,q<0)):=by
 unfold bC b4
 rw[TT l (fun i q=>if q<0 then some (i:Int) else none) (by omega) (fun i q hq =>?_) (by simp only[cX];rw[zzn (by simp)])]
 ·rw[ahr]
  cases hf:j8 (fun i (q:Rat)=>if q<0 then some (i:Int) else none) 0 l with
  | none =>
   simp only
   rw[ahr,decide_eq_false (by decide),decide_eq_false]
   rintro⟨q,hq,hn⟩
   obtain⟨j,hj⟩:=agd hq
   have:=mi.1 hf j q hj
   rw[zzp hn]at this
   cases this
  | some r =>
   obtain⟨j,q,h1,h2,_⟩:=oR hf
   by_cases hn:q<0
   ·rw[zzp hn]at h2
    cases h2
    simp only
    rw[ahr,decide_eq_true (by omega),decide_eq_true ⟨q,agk h1,hn⟩]
   ·rw[zzn hn]at h2;cases h2
 ·have hi:=fQ hq
  simp only[cX,kq]
  rw[zzp (by simp;omega),ee (x:=mN q) (by rw[afO,hq];rfl),ahr,Jm (hs q (agk hq)),ahr,ahr]
  by_cases hn:q<0
  ·rw[decide_eq_true (BI.2 hn),zzp hn];rfl
  ·rw[decide_eq_false (fun h=>hn (BI.1 h)),zzn hn,fJ (by omega)];rfl
def VU (N:Nat) (x:bJ):Bool:=decide (0<=x.bT∧x.bT<=(N:Int)-1)&&decide (0<=x.gA∧x.gA<=(N:Int)-1)&&okF x.bF&&decide (0<x.bF.aZ.ae)
def UQ (a b:bJ):Prop:=a.bT<b.bT∨(a.bT=b.bT∧a.gA<b.gA)
instance (a b:bJ):Decidable (UQ a b):=by unfold UQ;infer_instance
def Dj (N:Nat) (l:List bJ) (i:Nat) (x:bJ):Bool:=VU N x&&(decide (i=0)||(match l[i-1]? with|some y=>decide (UQ y x)|none=>false))
theorem Ot {N:Nat} {x:bJ} : VU N x=true↔∃t:Tk,x=xR t∧t.1<N∧t.2.1<N∧0<t.2.2:=by
 unfold VU
 simp only[agt,decide_eq_true_eq]
 constructor
 ·rintro⟨⟨⟨h1,h2⟩,h3⟩,h4⟩
  obtain⟨q,hq⟩:=Kd.1 h3
  refine⟨(x.bT.toNat,x.gA.toNat,q),?_,by simp only;omega,by simp only;omega,?_⟩
  ·unfold xR
   cases x
   simp only at *
   rw[<- hq,Int.toNat_of_nonneg h1.1,Int.toNat_of_nonneg h2.1]
  ·rw[hq]at h4
   exact BJ.1 h4
 ·rintro⟨t,rfl,h1,h2,h3⟩
  exact⟨⟨⟨by simp only[xR];omega,by simp only[xR];omega⟩,Yx _⟩,BJ.2 h3⟩
theorem Sv {a b:Tk} : UQ (xR a) (xR b)↔ltT a b:=by
 unfold UQ ltT xR
 simp only
 omega
theorem zq {n:cu} {K:Nat} (hK:K<=1000000) (hs:∀t∈n.av,t.bF.aZ.aa.length<=K∧t.bF.aY.aa.length<=K) :
  ∃b,gG n=some b∧(b=true↔∃N tk,n=mO N tk∧pD N tk):=by
 unfold gG
 rw[vx,ahr]
 by_cases hN:0<=n.az∧n.az<=2000
 rotate_left
 ·rw[decide_eq_false hN]
  refine⟨false,by simp,?_⟩
  simp only[ags,false_iff]
  rintro⟨N,tk,rfl,h⟩
  have:=h.ports
  simp only[mO]at hN
  omega
 rw[decide_eq_true hN]
 simp only[ahk,ags,if_false,Option.bind_some]
 by_cases hL:(n.av.length:Int)>8000
 ·rw[decide_eq_true hL]
  refine⟨false,by simp,?_⟩
  simp only[ags,false_iff]
  rintro⟨N,tk,rfl,h⟩
  have:=h.takes
  simp only[mO,agm]at hL
  omega
 rw[decide_eq_false hL]
 simp only[ags,if_false]
 obtain⟨N,hNe⟩:∃N:Nat,n.az=(N:Int):=⟨n.az.toNat,by omega⟩
 have hwr:IntKind.i64.wrap (n.az-1)=(N:Int)-1:=by rw[hNe,wrap64 (by omega) (by omega)]
 have hK2:K<=sL:=afT hK (by unfold sL;omega)
 have hscan:=TT n.av (body:=kU n) (fun i x=>if Dj N n.av i x=true then none else some false) (by omega) (fun i x hx=>by
  have hi:=fQ hx
  obtain⟨hs1,hs2⟩:=hs x (agk hx)
  simp only[kU]
  rw[zzp (by simp;omega),ee hx,ahr,vx,ahr,hwr]
  have hcond:(if (!decide (0<=x.bT∧x.bT<=(N:Int)-1))=true then some true
   else (da x.gA 0 ((N:Int)-1)).bind fun r30 =>
    if (!r30)=true then some true
    else (cz x.bF).bind fun r32=>if (!r32)=true then some true else (eD x.bF).bind fun r34=>some (decide (r34<=0)))=some (!VU N x):=by
   unfold VU
   by_cases c1:0<=x.bT∧x.bT<=(N:Int)-1
   rotate_left
   ·rw[decide_eq_false c1];simp
   rw[decide_eq_true c1,vx,ahr]
   by_cases c2:0<=x.gA∧x.gA<=(N:Int)-1
   rotate_left
   ·rw[decide_eq_false c2];simp
   rw[decide_eq_true c2,KT ⟨by omega,by omega⟩,ahr]
   cases hq:okF x.bF with
   | false=>simp
   | true =>
    obtain⟨q,hq⟩:=Kd.1 hq
    rw[hq]at hs1 hs2 ⊢
    have hLF:=Jk hs1 hs2
    rw[Jm (by unfold jE;omega),ahr]
    have:(mN q).aZ.ae=q.num.sign:=rfl
    rw[this]
    by_cases c3:q.num.sign<=0
    ·rw[decide_eq_true c3,decide_eq_false (show ¬0<q.num.sign by omega)];simp
    ·rw[decide_eq_false c3,decide_eq_true (show 0<q.num.sign by omega)];simp
  rw[hcond,ahr]
  unfold Dj
  cases hok:VU N x with
  | false=>simp
  | true =>
   simp only[ahk,ags,if_false,ahl]
   cases i with
   | zero=>rw[zzn (by simp),fJ (by omega)];simp
   | succ i =>
    rw[zzp (by simp)]
    have hg:n.av[i]? = some n.av[i]:=af4 (by omega)
    have e1:IntKind.i64.wrap (((i+1:Nat):Int)-1)=(i:Int):=by rw[wrap64 (by omega) (by omega)];omega
    obtain⟨c,hc1,hc2⟩:=UR n.av[i] x
    rw[e1,ee hg,ahr,hc1,ahr,ahE,hg]
    simp only[Nat.add_eq_zero_iff,ahQ,and_false,decide_false,agU]
    by_cases hb:UQ n.av[i] x
    ·rw[zzn (by simp;exact hc2.2 hb),decide_eq_true hb,fJ (by omega)];rfl
    ·rw[zzp (by simp only[decide_eq_true_eq];have:¬c<0:=fun h=>hb (hc2.1 h);omega),decide_eq_false hb];rfl) (by
  unfold kU
  rw[zzn (by simp)])
 rw[hscan,ahr]
 cases hfs:j8 (fun i x=>if Dj N n.av i x=true then none else some false) 0 n.av with
 | some r =>
  obtain⟨j,x,h1,h2,_⟩:=oR hfs
  simp only[agF]at h2
  split at h2
  ·cases h2
  rename_i hbad
  cases h2
  refine⟨false,rfl,?_⟩
  simp only[ags,false_iff]
  rintro⟨M,tk,rfl,hR⟩
  apply hbad
  simp only[mO]at h1 hNe ⊢
  obtain rfl:M=N:=by omega
  rw[afO,afP]at h1
  obtain⟨t,ht,rfl⟩:=h1
  have hm:=agk ht
  unfold Dj
  rw[Ot.2 ⟨t,rfl,hR.ok t hm⟩,ahl]
  cases j with
  | zero=>simp
  | succ j =>
   have hjl:=fQ ht
   have hg:tk[j]? = some tk[j]:=af4 (by omega)
   rw[ahE,afO,hg]
   simp only[Option.map_some]
   rw[decide_eq_true (Sv.2 ?_),Bool.or_true]
   have:=ahW.1 hR.sorted j (j+1) (by omega) hjl (by omega)
   rwa [(agl.1 ht).2]at this
 | none =>
  have hall:=mi.1 hfs
  simp only[agF]at hall
  have hgood:∀(j:Nat) x,n.av[j]? = some x->Dj N n.av j x=true:=fun j x hj=>by
   have:=hall j x hj
   split at this
   ·assumption
   ·cases this
  obtain⟨tk,htk,htk2⟩:=DC (mk:=xR) (R:=fun t=>t.1<N∧t.2.1<N∧0<t.2.2) (l:=n.av) fun x hx=>by
   obtain⟨j,hj⟩:=agd hx
   have:=hgood j x hj
   unfold Dj at this
   rw[agt]at this
   exact Ot.1 this.1
  have hn:n=mO N tk:=by
   unfold mO
   rw[<- hNe,<- htk]
  have hsort:tk.Pairwise ltT:=Kk Vq fun i a b ha hb=>by
   have:=hgood (i+1) (xR b) (by rw[htk,afO,hb];rfl)
   unfold Dj at this
   rw[agt,ahE,htk,afO,ha]at this
   simpa [Sv] using this.2
  have hLF:∀t∈tk,LF t.2.2<=K:=fun t ht=>by
   have:=hs (xR t) (by rw[htk];exact List.mem_map_of_mem ht)
   exact Jk this.1 this.2
  have hlen:tk.length<=8000:=by
   have:=congrArg List.length htk
   rw[agm]at this
   omega
  have hN2:N<=2000:=by omega
  simp only
  rw[hn,Dz hN2 hlen (fun t ht=>(htk2 t ht).1) hK hLF,ahr]
  have hmap:((List.range N).map fun p=>mN (df tk p))=((List.range N).map fun p=>df tk p).map mN:=by rw[List.map_map];rfl
  rw[hmap,Cr (by simp;omega) (fun q hq=>by
   obtain⟨p,_,rfl⟩:=afQ.1 hq
   have:=BQ hLF p
   have h2:tk.length*(K+1)<=8000*1000001:=Nat.mul_le_mul hlen (by omega)
   unfold jE;omega),ahr]
  refine⟨_,rfl,?_⟩
  simp only[agu,decide_eq_false_iff_not]
  constructor
  ·intro hno
   refine⟨N,tk,rfl,⟨hN2,hlen,htk2,hsort,fun p hp =>?_⟩⟩
   by_cases h0:df tk p<0
   ·exact absurd ⟨_,afQ.2 ⟨p,ahx.2 hp,rfl⟩,h0⟩ hno
   ·grind
  ·rintro⟨M,tk',he,hR⟩ ⟨q,hq,hneg⟩
   obtain⟨rfl,rfl⟩:=aaH he
   obtain⟨p,hp,rfl⟩:=afQ.1 hq
   have:=hR.leak p (ahx.1 hp)
   grind
theorem DT:∀(N:Nat) (l:List Nat),l.Nodup->(∀x∈l,x<N)->l.length<=N
 | 0,l,_,h=>by
  cases l with
  | nil=>simp
  | cons x l=>exact absurd (h x (aho ..)) (by omega)
 | N+1,l,hn,h=>by
  have h1:=DT N (l.erase N) (hn.erase N) fun x hx=>by
   have h2:=h x (List.mem_of_mem_erase hx)
   have h3:x≠N:=fun e=>by subst e;exact (List.Nodup.mem_erase_iff hn).1 hx |>.1 rfl
   omega
  rw[List.length_erase]at h1
  split at h1<;>omega
def iC (l:List Nat):List Int:=l.map fun (p:Nat)=>(p:Int)
theorem DP {l:List Nat} {i p:Nat} (h:l[i]? = some p):(iC l)[i]? = some (p:Int):=by unfold iC;rw[afO,h];rfl
theorem mo (l:List Nat):(iC l).length=l.length:=agm ..
def jF (tk:List Tk) (p:Nat):List Nat:=(tk.filter fun t=>decide (t.2.1=p)).map fun t=>t.1
theorem HO {tk:List Tk} {p q:Nat} : q∈jF tk p↔∃t∈tk,t.1=q∧t.2.1=p:=by
 unfold jF
 simp only[afQ,ahu,decide_eq_true_eq]
 constructor
 ·rintro⟨t,⟨h1,h2⟩,h3⟩;exact⟨t,h1,h3,h2⟩
 ·rintro⟨t,h1,h3,h2⟩;exact⟨t,⟨h1,h2⟩,h3⟩
theorem Gf (tk:List Tk) (p:Nat):(jF tk p).length<=tk.length:=by
 unfold jF
 rw[agm]
 exact aio ..
theorem PU {tk:List Tk} {i:Nat} {t:Tk} (h:tk[i]? = some t) (p:Nat):jF (tk.take (i+1)) p=if t.2.1=p then jF (tk.take i) p++[t.1] else jF (tk.take i) p:=by
 obtain⟨hi,he⟩:=agl.1 h
 unfold jF
 rw[ain hi,List.filter_append,List.map_append,he]
 by_cases hc:t.2.1=p
 ·rw[zzp hc,List.filter_cons_of_pos (by simpa using hc)];rfl
 ·rw[zzn hc,List.filter_cons_of_neg (by simpa using hc)];simp
structure pC (N:Nat) (tk:List Tk) (r:Nat->Int):Prop where
 ge:∀p,p<N -> -1<=r p
 zero:∀p,p<N->(r p=0↔0<df tk p)
 down:∀p,p<N->0<r p->∃t∈tk,t.1=p∧r t.2.1=r p-1
 near:∀t∈tk,0<=r t.2.1->0<=r t.1∧r t.1<=r t.2.1+1
 le:∀p,p<N->r p<=2000
structure BF (N:Nat) (tk:List Tk) (r:Nat->Int) (D Q:List Nat) (h m:Int):Prop where
 nodup:(D++Q).Nodup
 lt:∀p∈D++Q,p<N
 rk:∀p,p<N->(0<=r p↔p∈D++Q)
 ge:∀p,p<N -> -1<=r p
 zero:∀p,p<N->(r p=0↔0<df tk p)
 down:∀p,p<N->0<r p->∃t∈tk,t.1=p∧r t.2.1=r p-1
 near:∀t∈tk,t.2.1∈D->0<=r t.1∧r t.1<=r t.2.1+1
 mono:Q.Pairwise fun a b=>r a<=r b
 top:∀p∈D++Q,r p<=h+1
 low:∀q∈Q,h<=r q
 bnd:∀p,p<N->r p<=m
def We (r:Nat->Int) (q:Nat) (v:Int):Nat->Int:=fun x=>if x=q then v else r x
theorem jl (r:Nat->Int) (q:Nat) (v:Int):We r q v q=v:=zzp rfl
theorem gE {r:Nat->Int} {q x:Nat} (v:Int) (h:x≠q):We r q v x=r x:=zzn h
theorem BF.pop {N:Nat} {tk:List Tk} {r:Nat->Int} {D Q:List Nat} {p:Nat} {h m:Int} (hB:BF N tk r D (p::Q) h m):BF N tk r D (p::Q) (r p) (m+1)∧0<=r p∧p<N∧r p<=m where
 left:={
  nodup:=hB.nodup,lt:=hB.lt,rk:=hB.rk,ge:=hB.ge,zero:=hB.zero,down:=hB.down,near:=hB.near,mono:=hB.mono
  top:=fun x hx=>by
   have h1:=hB.top x hx
   have h2:=hB.low p (aho ..)
   omega
  low:=fun q hq=>by
   rcases afY.1 hq with rfl|hq
   ·exact Int.le_refl _
   ·exact (ahv.1 hB.mono).1 q hq
  bnd:=fun x hx=>by have:=hB.bnd x hx;omega }
 right:=by
  have hm:p∈D++p::Q:=af6 _ (aho ..)
  have hp:=hB.lt p hm
  exact⟨(hB.rk p hp).2 hm,hp,hB.bnd p hp⟩
theorem BF.push {N:Nat} {tk:List Tk} {r:Nat->Int} {D Q:List Nat} {p q:Nat} {m:Int} (hB:BF N tk r D (p::Q) (r p) m) (hp0:0<=r p) (hm:r p+1<=m) (hq:q<N) (hr:r q = -1) (ht:∃t∈tk,t.1=q∧t.2.1=p) :
  BF N tk (We r q (r p+1)) D (p::(Q++[q])) (r p) m∧We r q (r p+1) p=r p:=by
 have hqn:q∉D++p::Q:=fun h=>by have:=(hB.rk q hq).2 h;omega
 have hap:∀x,x∈D++p::(Q++[q])↔x∈D++p::Q∨x=q:=fun x=>by
  simp only[ag7,afY,aip,or_false]
  constructor
  ·rintro (h|h|h|h)<;>simp[h]
  ·rintro ((h|h|h)|h)<;>simp[h]
 have hne:∀x,x∈D++p::Q->x≠q:=fun x hx e=>hqn (e ▸ hx)
 have hpm:p∈D++p::Q:=af6 _ (aho ..)
 have hpq:p≠q:=hne p hpm
 refine⟨?_,gE _ hpq⟩
 constructor
 ·have:D++p::(Q++[q])=(D++p::Q)++[q]:=by simp
  rw[this,List.nodup_append]
  refine⟨hB.nodup,by simp,fun a ha b hb =>?_⟩
  simp only[afY,aip,or_false]at hb
  subst hb
  exact hne a ha
 ·intro x hx
  rcases (hap x).1 hx with h|rfl
  ·exact hB.lt x h
  ·exact hq
 ·intro x hx
  rw[hap]
  by_cases h:x=q
  ·subst h;rw[jl];exact⟨fun _ =>.inr rfl,fun _=>by omega⟩
  ·rw[gE _ h,hB.rk x hx];exact⟨.inl,fun k=>k.elim id fun e=>absurd e h⟩
 ·intro x hx
  by_cases h:x=q
  ·subst h;rw[jl];omega
  ·rw[gE _ h];exact hB.ge x hx
 ·intro x hx
  by_cases h:x=q
  ·subst h
   rw[jl]
   have:=hB.zero x hx
   constructor
   ·intro h;omega
   ·intro h;have:=this.2 h;omega
  ·rw[gE _ h];exact hB.zero x hx
 ·intro x hx h0
  by_cases h:x=q
  ·subst h
   obtain⟨t,h1,h2,h3⟩:=ht
   refine⟨t,h1,h2,?_⟩
   rw[h3,gE _ hpq,jl]
   omega
  ·rw[gE _ h]at h0 ⊢
   obtain⟨t,h1,h2,h3⟩:=hB.down x hx h0
   refine⟨t,h1,h2,?_⟩
   rw[gE _ (fun e=>by rw[e,hr]at h3;omega)]
   exact h3
 ·intro t ht' hD
  obtain⟨h1,h2⟩:=hB.near t ht' hD
  have e1:t.2.1≠q:=hne _ (af5 _ hD)
  have e2:t.1≠q:=fun e=>by rw[e]at h1;omega
  rw[gE _ e1,gE _ e2]
  exact⟨h1,h2⟩
 ·have h1:=hB.mono
  have:p::(Q++[q])=(p::Q)++[q]:=by simp
  rw[this,List.pairwise_append]
  refine⟨h1.imp_of_mem fun {a b} ha hb h =>?_,by simp,fun a ha b hb =>?_⟩
  ·rw[gE _ (hne a (af6 _ ha)),gE _ (hne b (af6 _ hb))]
   exact h
  ·simp only[afY,aip,or_false]at hb
   subst hb
   rw[gE _ (hne a (af6 _ ha)),jl]
   exact hB.top a (af6 _ ha)
 ·intro x hx
  rcases (hap x).1 hx with h|rfl
  ·rw[gE _ (hne x h)];exact hB.top x h
  ·rw[jl];exact Int.le_refl _
 ·intro x hx
  by_cases h:x=q
  ·subst h;rw[jl];omega
  ·rw[gE _ h]
   apply hB.low x
   simp only[afY,ag7,aip,or_false]at hx ⊢
   rcases hx with h1|h1|h1
   ·exact .inl h1
   ·exact .inr h1
   ·exact absurd h1 h
 ·intro x hx
  by_cases h:x=q
  ·subst h;rw[jl];exact hm
  ·rw[gE _ h];exact hB.bnd x hx
theorem BF.finish {N:Nat} {tk:List Tk} {r:Nat->Int} {D Q:List Nat} {p:Nat} {h m:Int} (hB:BF N tk r D (p::Q) h m) (hn:∀q∈jF tk p,0<=r q∧r q<=r p+1):BF N tk r (D++[p]) Q h m:=by
 have e:(D++[p])++Q=D++p::Q:=by simp
 exact {
  nodup:=by rw[e];exact hB.nodup
  lt:=by rw[e];exact hB.lt
  rk:=by rw[e];exact hB.rk
  ge:=hB.ge,zero:=hB.zero,down:=hB.down
  near:=fun t ht hD=>by
   rcases ag7.1 hD with h1|h1
   ·exact hB.near t ht h1
   ·simp only[afY,aip,or_false]at h1
    rw[h1]
    exact hn t.1 (HO.2 ⟨t,ht,rfl,h1⟩)
  mono:=(ahv.1 hB.mono).2
  top:=by rw[e];exact hB.top
  low:=fun q hq=>hB.low q (ahp _ hq)
  bnd:=hB.bnd }
theorem BF.adT {N:Nat} {tk:List Tk} {r:Nat->Int} {D:List Nat} {h m:Int} (hB:BF N tk r D [] h m) (ht:∀t∈tk,t.1<N∧t.2.1<N) (hm:m<=2000):pC N tk r where
 ge:=hB.ge
 zero:=hB.zero
 down:=hB.down
 near t h1 h2:=hB.near t h1 (by have:=(hB.rk t.2.1 (ht t h1).2).1 h2;simpa using this)
 le p hp:=by have:=hB.bnd p hp;omega
theorem Y1 {α:Type} (a:α) (l:List α):Bv (a::l) 1 ((a::l).length:Int)=some l:=by
 unfold Bv
 rw[zzp ⟨by omega,by simp;omega,by omega⟩]
 simp
variable {N:Nat} {tk:List Tk}
theorem Ri {r:Nat->Int} {D Q:List Nat} {p:Nat} {m:Int} (hB:BF N tk r D (p::Q) (r p) m) (hp:p<N) (hp0:0<=r p) (hm:r p+1<=m) (hm2:m<=2001) (htk:∀t∈tk,t.1<N∧t.2.1<N) (hlen:tk.length<=8000) (hN:N<=2000) :
  ∃r' Q',bc (je (p:Int) (iC (jF tk p))) ((0:Int),(List.range N).map r,iC Q)=some ((List.range N).map r',iC Q')∧BF N tk r' (D++[p]) Q' (r p) m:=by
 have hbl:=Gf tk p
 have key:=fun hs he=>Qg (body:=je (p:Int) (iC (jF tk p))) (jF tk p) (by omega) (fun i (s:List Int×List Int)=>∃r' Q',s=((List.range N).map r',iC Q')∧BF N tk r' D (p::Q') (r p) m∧r' p=r p∧∀q∈(jF tk p).take i,0<=r' q∧r' q<=r p+1)
  (fun x=>∃r' Q',x=((List.range N).map r',iC Q')∧BF N tk r' (D++[p]) Q' (r p) m) (s0:=((List.range N).map r,iC Q)) ⟨r,Q,rfl,hB,rfl,fun q hq=>by simp at hq⟩ hs he
 refine (key ?_ ?_).elim fun x ⟨h1,r',Q',hx,h2⟩=>⟨r',Q',hx ▸ h1,h2⟩
 ·rintro i q _ hq ⟨r',Q',rfl,hB',hrp,hnear⟩
  have hi:=fQ hq
  have hqm:=agk hq
  obtain⟨t,ht1,ht2,ht3⟩:=HO.1 hqm
  have hqN:q<N:=by rw[<- ht2];exact (htk t ht1).1
  have htake:(jF tk p).take (i+1)=(jF tk p).take i++[q]:=by
   rw[ain hi,(agl.1 hq).2]
  have hQl:Q'.length<=N:=by
   have h1:=DT N (D++p::Q') hB'.nodup hB'.lt
   simp only[ag1,List.length_cons]at h1
   omega
  simp only[je]
  rw[zzp (by rw[mo];simp;omega),ee (DP hq),ahr,ee (cV r' hqN),ahr]
  by_cases hc:r' q = -1
  ·rw[zzp (by rw[hc];rfl),ee (cV r' hp),ahr,hrp,K0 (by rw[mo];simp;omega),ahr,fJ (by omega),agR,nF]
   have hw:IntKind.i64.wrap (r p+1)=r p+1:=wrap64 (by omega) (by omega)
   rw[hw]
   have hB2:=hB'
   rw[<- hrp]at hB2
   obtain⟨h1,h2⟩:=hB2.push (by omega) (by omega) hqN hc ⟨t,ht1,ht2,ht3⟩
   rw[hrp]at h1 h2
   refine⟨_,rfl,We r' q (r p+1),Q'++[q],?_,h1,h2,fun x hx =>?_⟩
   ·unfold iC We;simp
   ·rw[htake]at hx
    rcases ag7.1 hx with hx|hx
    ·have:=hnear x hx
     by_cases hxq:x=q
     ·subst hxq;rw[hc]at this;omega
     ·rw[gE _ hxq];exact this
    ·simp only[afY,aip,or_false]at hx
     subst hx
     rw[jl];omega
  ·rw[zzn (by simpa using hc),fJ (by omega)]
   refine⟨_,rfl,r',Q',rfl,hB',hrp,fun x hx =>?_⟩
   rw[htake]at hx
   rcases ag7.1 hx with hx|hx
   ·exact hnear x hx
   ·simp only[afY,aip,or_false]at hx
    subst hx
    have h0:0<=r' x:=by have:=hB'.ge x hqN;omega
    exact⟨h0,hB'.top x ((hB'.rk x hqN).1 h0)⟩
 ·rintro _ ⟨r',Q',rfl,hB',hrp,hnear⟩
  refine⟨_,?_,r',Q',rfl,hB'.finish fun q hq =>?_⟩
  ·simp only[je]
   rw[zzn (by rw[mo];simp)]
  ·rw[ahS]at hnear
   rw[hrp]
   exact hnear q hq
theorem Rj {r:Nat->Int} {Q:List Nat} (hB:BF N tk r [] Q 0 0) (htk:∀t∈tk,t.1<N∧t.2.1<N) (hlen:tk.length<=8000) (hN:N<=2000) :
  ∃r',bc (jd ((List.range N).map fun p=>iC (jF tk p))) ((List.range N).map r,iC Q)=some ((List.range N).map r')∧pC N tk r':=by
 have key:=fun hs=>ez (body:=jd ((List.range N).map fun p=>iC (jF tk p))) (fun i (s:List Int×List Int)=>∃r' D Q' h,s=((List.range N).map r',iC Q')∧D.length=i∧BF N tk r' D Q' h (i:Int)) N
  (fun x=>∃r',x=(List.range N).map r'∧pC N tk r') (s:=((List.range N).map r,iC Q)) ⟨r,[],Q,0,rfl,rfl,hB⟩ (mM (by omega)) hs
 refine (key ?_).elim fun x ⟨h1,r',hx,h2⟩=>⟨r',hx ▸ h1,h2⟩
 ·rintro i _ hi ⟨r',D,Q',h,rfl,hD,hB'⟩
  cases Q' with
  | nil =>
   refine .inr ⟨_,?_,r',rfl,hB'.adT htk (by omega)⟩
   simp only[jd,iC,agG]
   rw[zzn (by simp)]
  | cons p Q' =>
   obtain⟨hB2,hp0,hp,hpm⟩:=hB'.pop
   have hiN:i<N:=by
    have h1:=DT N (D++p::Q') hB'.nodup hB'.lt
    simp only[ag1,List.length_cons]at h1
    omega
   obtain⟨r2,Q2,h1,h2⟩:=Ri hB2 hp hp0 (by omega) (by omega) htk hlen hN
   refine .inl ⟨hiN,((List.range N).map r2,iC Q2),?_,r2,D++[p],Q2,r' p,rfl,by simp[hD],by simpa using h2⟩
   simp only[jd]
   have e1:iC (p::Q')=(p:Int)::iC Q':=rfl
   rw[e1,zzp (by simp),idx_zero' ,ahr,Y1,ahr,ee (cV (fun p=>iC (jF tk p)) hp),ahr,h1,ahr]
where
 idx_zero':∀ {α:Type} {a:α} {l:List α},P.idx (a::l) 0=some a:=fun {_ a l}=>ee (l:=a::l) (i:=0) rfl
theorem UP {L:Nat} (htk:∀t∈tk,t.1<N∧t.2.1<N) (hlen:tk.length<=8000) :
  bc (jb (mO N tk)) ((0:Int),List.replicate N ([]:List Int))=some ((List.range N).map fun p=>iC (jF tk p)):=by
 unfold mO
 have key:=fun hs he=>Qg (body:=jb (cu.mk (N:Int) (tk.map xR))) tk (by omega) (fun i l=>l=(List.range N).map fun p=>iC (jF (tk.take i) p)) (fun l=>l=(List.range N).map fun p=>iC (jF tk p)) (s0:=List.replicate N ([]:List Int))
  (lA (by simp) fun j hj=>by rw[List.getElem?_replicate,zzp hj,List.take_zero];rfl) hs he
 refine (key ?_ ?_).elim fun x ⟨h1,hx⟩=>hx ▸ h1
 ·rintro i t _ ht rfl
  have hi:=fQ ht
  have hto:=(htk t (agk ht)).2
  have hg:(tk.map xR)[i]? = some (xR t):=by rw[afO,ht];rfl
  have hbl:=Gf (tk.take i) t.2.1
  rw[aga]at hbl
  refine⟨_,?_,rfl⟩
  simp only[jb]
  rw[zzp (by simp;omega),ee hg,ahr]
  simp only[xR]
  rw[ee (cV _ hto),ahr,K0 (by rw[mo];simp;omega),ahr,fJ (by omega),agR,nF]
  congr 3
  refine congrArg (fun f=>(List.range N).map f) (funext fun p =>?_)
  rw[PU ht]
  by_cases h:p=t.2.1
  ·subst h;rw[zzp rfl,zzp rfl];unfold iC;simp
  ·rw[zzn h,zzn (fun e=>h e.symm)]
 ·rintro _ rfl
  refine⟨_,?_,rfl⟩
  simp only[jb]
  rw[zzn (by simp),ahS]
def AX (tk:List Tk) (p:Nat):Int:=if 0<df tk p then 0 else -1
def kY (tk:List Tk) (n:Nat):List Nat:=(List.range n).filter fun p=>decide (0<df tk p)
theorem ON (tk:List Tk) (n:Nat):kY tk (n+1)=if 0<df tk n then kY tk n++[n] else kY tk n:=by
 unfold kY
 rw[List.range_succ,List.filter_append]
 by_cases h:0<df tk n
 ·rw[zzp h,List.filter_cons_of_pos (by simpa using h)];rfl
 ·rw[zzn h,List.filter_cons_of_neg (by simpa using h)];simp
theorem Vd {K:Nat} (hN:N<=2000) (hlen:tk.length<=8000) (hK:K<=1000000) (hs:∀t∈tk,LF t.2.2<=K) :
  bc (jc ((List.range N).map fun p=>mN (df tk p))) ((0:Int),List.replicate N (0:Int),([]:List Int))=some ((List.range N).map (AX tk),iC (kY tk N)):=by
 have key:=fun hs he=>Qg (body:=jc ((List.range N).map fun p=>mN (df tk p))) (List.range N) (by simp;omega) (fun i (s:List Int×List Int)=>s=((List.range N).map (fun p=>if p<i then AX tk p else 0),iC (kY tk i))) (fun s=>s=((List.range N).map (AX tk),iC (kY tk N))) (s0:=(List.replicate N (0:Int),([]:List Int)))
  (by rw[show kY tk 0=[] from rfl];refine Prod.ext ?_ rfl;exact lA (by simp) fun j hj=>by rw[List.getElem?_replicate,zzp hj,zzn (by omega)]) hs he
 refine (key ?_ ?_).elim fun x ⟨h1,hx⟩=>hx ▸ h1
 ·rintro i x _ hx rfl
  have hi:i<N:=by have:=fQ hx;simpa using this
  have hLF:=BQ hs i
  have h2:tk.length*(K+1)<=8000*1000001:=Nat.mul_le_mul hlen (by omega)
  have hql:(kY tk i).length<=i:=by unfold kY;have:=aio (fun p=>decide (0<df tk p)) (List.range i);simpa using this
  refine⟨_,?_,rfl⟩
  simp only[jc]
  rw[zzp (by simp;omega),ee (cV (fun p=>mN (df tk p)) hi),ahr,ee (cV _ hi),ahr,Jm (by unfold jE;omega),ahr,agR,nF,nF,fJ (by omega),ON]
  by_cases hl:0<df tk i
  ·rw[zzp (by simpa using BJ.2 hl),ee (cV _ hi),ahr,K0 (by rw[mo];simp;omega),ahr,zzp hl]
   refine congrArg some (congrArg Sum.inl (congrArg (Prod.mk _) (Prod.ext ?_ ?_)))
   ·refine congrArg (fun f=>(List.range N).map f) (funext fun p =>?_)
    by_cases h:p=i
    ·subst h;rw[zzp rfl,zzp (by omega)];unfold AX;rw[zzp hl]
    ·rw[zzn h,zzn h]
     by_cases h3:p<i
     ·rw[zzp h3,zzp (by omega)]
     ·rw[zzn h3,zzn (by omega)]
   ·unfold iC;simp
  ·rw[zzn (by simpa using fun h=>hl (BJ.1 h)),zzn hl]
   refine congrArg some (congrArg Sum.inl (congrArg (Prod.mk _) (Prod.ext ?_ rfl)))
   refine congrArg (fun f=>(List.range N).map f) (funext fun p =>?_)
   by_cases h:p=i
   ·subst h;rw[zzp rfl,zzp (by omega)];unfold AX;rw[zzn hl]
   ·rw[zzn h]
    by_cases h3:p<i
    ·rw[zzp h3,zzp (by omega)]
    ·rw[zzn h3,zzn (by omega)]
 ·rintro _ rfl
  refine⟨_,?_,rfl⟩
  simp only[jc]
  rw[zzn (by simp),agn]
  refine congrArg some (congrArg Sum.inr (Prod.ext ?_ rfl))
  refine lA (by simp) fun j hj =>?_
  rw[cV _ hj,zzp hj]
theorem aaC (N:Nat) (tk:List Tk):BF N tk (AX tk) [] (kY tk N) 0 0:=by
 have hm:∀p,p∈kY tk N↔p<N∧0<df tk p:=fun p=>by unfold kY;simp[ahu]
 have h0:∀p,0<df tk p->AX tk p=0:=fun p h=>zzp h
 have h1:∀p,¬0<df tk p->AX tk p = -1:=fun p h=>zzn h
 constructor
 ·rw[ahA];unfold kY;exact List.nodup_range.filter _
 ·intro p hp;rw[ahA]at hp;exact ((hm p).1 hp).1
 ·intro p hp
  rw[ahA,hm]
  by_cases h:0<df tk p
  ·rw[h0 p h];simp[hp,h]
  ·rw[h1 p h];simp[h]
 ·intro p hp
  by_cases h:0<df tk p
  ·rw[h0 p h];omega
  ·rw[h1 p h];omega
 ·intro p hp
  by_cases h:0<df tk p
  ·rw[h0 p h];simp[h]
  ·rw[h1 p h];simp[h]
 ·intro p hp hpos
  by_cases h:0<df tk p
  ·rw[h0 p h]at hpos;omega
  ·rw[h1 p h]at hpos;omega
 ·intro t _ h;simp at h
 ·refine List.Pairwise.imp_of_mem (R:=fun _ _=>True) (fun {a b} ha hb _ =>?_) (List.pairwise_of_forall (fun _ _=>trivial))
  rw[h0 a ((hm a).1 ha).2,h0 b ((hm b).1 hb).2]
  exact Int.le_refl _
 ·intro p hp
  rw[ahA]at hp
  rw[h0 p ((hm p).1 hp).2];omega
 ·intro q hq;rw[h0 q ((hm q).1 hq).2];omega
 ·intro p hp
  by_cases h:0<df tk p
  ·rw[h0 p h];omega
  ·rw[h1 p h];omega
theorem YQ {K:Nat} (hR:pD N tk) (hK:K<=1000000) (hs:∀t∈tk,LF t.2.2<=K):∃r,fR (mO N tk)=some ((List.range N).map r)∧pC N tk r:=by
 have hN:=hR.ports
 have hlen:=hR.takes
 have htk:∀t∈tk,t.1<N∧t.2.1<N:=fun t ht=>⟨(hR.ok t ht).1,(hR.ok t ht).2.1⟩
 obtain⟨b,hb1,hb2⟩:=zq (n:=mO N tk) hK (fun t ht=>by
  simp only[mO,afQ]at ht
  obtain⟨t',h1,rfl⟩:=ht
  exact SN (hs t' h1))
 obtain rfl:b=true:=hb2.2 ⟨N,tk,rfl,hR⟩
 obtain⟨r',h1,h2⟩:=Rj (aaC N tk) htk hlen hN
 refine⟨r',?_,h2⟩
 unfold fR
 rw[hb1,ahr]
 simp only[ahk,ags,if_false]
 have e1:(mO N tk).az=(N:Int):=rfl
 rw[e1,Tz _ (by omega) hN,ahr,UP (L:=0) htk hlen,ahr,Tz _ (by omega) hN,ahr,Dz hN hlen (fun t ht=>(htk t ht).1) hK hs,ahr,Vd hN hlen hK hs,ahr]
 simp only
 rw[h1,ahr]
def ig (N:Nat) (r:Nat->Int):List Nat:=(List.range N).filter fun p=>decide (r p = -1)
theorem RI (n:Nat) (r:Nat->Int):ig (n+1) r=if r n = -1 then ig n r++[n] else ig n r:=by
 unfold ig
 rw[List.range_succ,List.filter_append]
 by_cases h:r n = -1
 ·rw[zzp h,List.filter_cons_of_pos (by simpa using h)];rfl
 ·rw[zzn h,List.filter_cons_of_neg (by simpa using h)];simp
theorem RJ {r:Nat->Int} (hN:N<=2000) (h:fR (mO N tk)=some ((List.range N).map r)):gQ (mO N tk)=some (iC (ig N r)):=by
 unfold gQ
 rw[h,ahr]
 have key:=fun hs he=>Qg (body:=gH ((List.range N).map r)) (List.range N) (by simp;omega) (fun i l=>l=iC (ig i r)) (fun l=>l=iC (ig N r)) (s0:=([]:List Int)) rfl hs he
 have h2:bc (gH ((List.range N).map r)) ((0:Int),[])=some (iC (ig N r)):=by
  refine (key ?_ ?_).elim fun x ⟨h1,hx⟩=>hx ▸ h1
  ·rintro i x _ hx rfl
   have hi:i<N:=by have:=fQ hx;simpa using this
   have hql:(ig i r).length<=i:=by unfold ig;have:=aio (fun p=>decide (r p = -1)) (List.range i);simpa using this
   refine⟨_,?_,rfl⟩
   simp only[gH]
   rw[zzp (by simp;omega),ee (cV r hi),ahr,fJ (by omega),RI]
   by_cases hc:r i = -1
   ·rw[zzp (by rw[hc];rfl),K0 (by rw[mo];simp;omega),ahr,zzp hc]
    unfold iC;simp
   ·rw[zzn (by simpa using hc),zzn hc]
  ·rintro _ rfl
   refine⟨_,?_,rfl⟩
   simp only[gH]
   rw[zzn (by simp),agn]
 rw[h2,ahr]
end Go.Proofs.YtmcncjgbkobjnaaGreat.P
namespace Go.Proofs.YtmcncjgbkobjnaaGreat.P
open Go.RowKit
set_option maxRecDepth 100000
theorem acH:pX=some true:=by kernel_rfl
theorem XL {n:cu} (hl:n.av.length<=17592186044416):∃b,iQ n=some b∧(b=true->n.av.length<=40∧(∀t∈n.av,t.bF.aZ.aa.length<=6∧t.bF.aY.aa.length<=6)∧(n.az<=12∨2000<n.az)):=by
 unfold iQ
 have htl:(n.av.take 40).length=min 40 n.av.length:=aga
 rw[TT (n.av.take 40) (fun i x=>if decide ((x.bF.aZ.aa.length:Int)<=6∧(x.bF.aY.aa.length:Int)<=6)=true then none else some false) (by omega) (fun i x hx =>?_) (by
  simp only[lX]
  by_cases h:40<n.av.length
  ·rw[zzp (by rw[htl];simp;omega),ahr,zzn (by rw[htl];simp;omega)]
  ·rw[zzn (by rw[htl];simp;omega),ahr];rfl)]
 ·rw[ahr]
  cases hfs:j8 (fun (i:Nat) (x:bJ)=>if decide ((x.bF.aZ.aa.length:Int)<=6∧(x.bF.aY.aa.length:Int)<=6)=true then none else some false) 0 (n.av.take 40) with
  | none =>
   have hmain:(n.av.length:Int)<=40->∀t∈n.av,t.bF.aZ.aa.length<=6∧t.bF.aY.aa.length<=6:=fun h t ht=>by
    obtain⟨j,hj⟩:=agd ht
    have:=mi.1 hfs j t (by rw[ahi (by omega)];exact hj)
    split at this
    ·rename_i h;have:=of_decide_eq_true h;omega
    ·cases this
   simp only
   by_cases h1:n.az<=12
   ·rw[zzp (by simpa using h1)]
    exact⟨_,rfl,fun h=>by have h':=of_decide_eq_true h;exact⟨by omega,hmain h',.inl h1⟩⟩
   ·rw[zzn (by simpa using h1)]
    by_cases h2:n.az>2000
    ·rw[zzp (by simpa using h2)]
     exact⟨_,rfl,fun h=>by have h':=of_decide_eq_true h;exact⟨by omega,hmain h',.inr h2⟩⟩
    ·rw[zzn (by simpa using h2)]
     exact⟨_,rfl,fun h=>by cases h⟩
  | some r =>
   obtain⟨j,x,_,h2,_⟩:=oR hfs
   split at h2
   ·cases h2
   ·cases h2;exact⟨false,rfl,fun h=>by cases h⟩
 ·have hi:=fQ hx
  rw[htl]at hi
  rw[af7,zzp (by omega)]at hx
  simp only[lX]
  rw[zzp (by simp;omega),ahr,zzp (by simp;omega),ee hx,ahr,ae6,ahr]
  by_cases hc:(x.bF.aZ.aa.length:Int)<=6∧(x.bF.aY.aa.length:Int)<=6
  ·rw[decide_eq_true hc,fJ (by omega)];rfl
  ·rw[decide_eq_false hc];rfl
theorem acr {N K:Nat} {tk:List Tk} (hR:pD N tk) (hK:K<=1000000) (hs:∀t∈tk,LF t.2.2<=K) {p:Nat} (hp:p<N):jJ (mO N tk) (p:Int)=some (mN (df tk p)):=by
 have hN:=hR.ports
 obtain⟨b,hb1,hb2⟩:=zq (n:=mO N tk) hK (fun t ht=>by
  simp only[mO,afQ]at ht
  obtain⟨t',h1,rfl⟩:=ht
  exact SN (hs t' h1))
 obtain rfl:b=true:=hb2.2 ⟨N,tk,rfl,hR⟩
 unfold jJ
 have e0:(mO N tk).az=(N:Int):=rfl
 rw[hb1,ahr,vx,ahr,e0,wrap64 (by omega) (by omega),decide_eq_true (show (0:Int)<=(p:Int)∧(p:Int)<=(N:Int)-1 by omega),Dz hN hR.takes (fun t ht=>(hR.ok t ht).1) hK hs,ahr,ee (cV _ hp)]
 rfl
theorem Tq {N:Nat} {tk:List Tk} (hR:pD N tk) (hs:∀t∈tk,LF t.2.2<=6) (hl:tk.length<=40) {p:Nat} (hp:p<N):∃c,jJ (mO N tk) (p:Int)=some c∧eD c=some (df tk p).num.sign:=by
 have h1:=BQ hs p
 have hLm:jE=4398046511104:=rfl
 exact⟨_,acr hR (by decide) hs hp,Jm (by omega)⟩
theorem Ys {n:cu} (hl:n.av.length<=17592186044416):∃b,iQ n=some b∧(b=true->∃c,gG n=some c∧(c=true->∃N tk r,n=mO N tk∧pD N tk∧(∀t∈tk,LF t.2.2<=6)∧tk.length<=40∧N<=12∧fR n=some ((List.range N).map r)∧pC N tk r)):=by
 obtain⟨b,h1,h2⟩:=XL hl
 refine⟨b,h1,fun hb =>?_⟩
 obtain⟨q1,q2,q3⟩:=h2 hb
 obtain⟨c,c1,c2⟩:=zq (K:=6) (by decide) q2
 refine⟨c,c1,fun hc =>?_⟩
 obtain⟨N,tk,rfl,hR⟩:=c2.1 hc
 have hs:∀t∈tk,LF t.2.2<=6:=fun t ht=>by
  have:=q2 (xR t) (by simp only[mO];exact List.mem_map_of_mem ht)
  exact Jk this.1 this.2
 obtain⟨r,r1,r2⟩:=YQ hR (by decide) hs
 have hN:=hR.ports
 exact⟨N,tk,r,rfl,hR,hs,by simpa [mO] using q1,by simp only[mO]at q3;omega,r1,r2⟩
section
variable {N:Nat} {tk:List Tk} {r:Nat->Int}
end
theorem adu (x:Int):gn .and .u16 x 1=0∨gn .and .u16 x 1=1:=by
 have h:(BitVec.ofInt 16 x &&& BitVec.ofInt 16 1).toNat=(BitVec.ofInt 16 x).toNat % 2:=by
  rw[BitVec.toNat_and]
  exact Nat.and_one_is_mod _
 have e:gn .and .u16 x 1=IntKind.u16.wrap ((BitVec.ofInt 16 x &&& BitVec.ofInt 16 1).toNat:Int):=rfl
 rw[e,h]
 rcases Nat.mod_two_eq_zero_or_one (BitVec.ofInt 16 x).toNat with h|h
 ·rw[h];exact .inl (by decide)
 ·rw[h];exact .inr (by decide)
def vC (x:Int) (p:Nat):Bool:=gn .and .u16 (x.fdiv (2 ^ (min p 16))) 1==1
theorem TV (x:Int) (p:Nat):sA .u16 x (p:Int)=some (x.fdiv (2 ^ (min p 16))):=by
 unfold sA
 rw[zzn (by omega),agR]
 rfl
theorem adt (x:Int) (p:Nat):(gn .and .u16 (x.fdiv (2 ^ (min p 16))) 1==1)=vC x p:=rfl
theorem ads (x:Int) (p:Nat):(gn .and .u16 (x.fdiv (2 ^ (min p 16))) 1==0) = !vC x p:=by
 unfold vC
 rcases adu (x.fdiv (2 ^ (min p 16))) with h|h<;>rw[h]<;>rfl
theorem DM {N p:Nat} {r:Nat->Int} : p∈ig N r↔p<N∧r p = -1:=by
 unfold ig
 rw[ahu,ahx,decide_eq_true_eq]
theorem aa2 (N:Nat) (r:Nat->Int):(ig N r).Pairwise (· < ·):=List.Pairwise.filter _ List.pairwise_lt_range
section
variable {N:Nat} {tk:List Tk} {r:Nat->Int}
theorem Vo (hR:pD N tk) (hr:pC N tk r) {p:Nat} (hp:p<N) (h:r p = -1):df tk p=0:=by
 have h1:=hr.zero p hp
 have h2:=hR.leak p hp
 by_cases h0:0<df tk p
 ·have:=h1.2 h0;omega
 ·grind
theorem VO (hR:pD N tk) (hr:pC N tk r) (hs:∀t∈tk,LF t.2.2<=6) (hlen:tk.length<=40) (hN:N<=12) :
  bc (eX (mO N tk) ((List.range N).map r) (iC (ig N r))) ((0:Int),List.replicate N false)=some (.inl ((List.range N).map fun p=>decide (r p = -1))):=by
 have htl:(ig N r).length<=N:=by unfold ig;have:=aio (fun p=>decide (r p = -1)) (List.range N);simpa using this
 have key:=fun hst hend=>Qg (body:=eX (mO N tk) ((List.range N).map r) (iC (ig N r))) (ig N r) (by omega)
  (fun i (l:List Bool)=>l=(List.range N).map fun p=>decide (p∈(ig N r).take i))
  (fun q=>q=.inl ((List.range N).map fun p=>decide (r p = -1))) (s0:=List.replicate N false)
  (lA (by simp) fun j hj=>by rw[List.getElem?_replicate,zzp hj,List.take_zero];simp) hst hend
 refine (key ?_ ?_).elim fun x ⟨h1,hx⟩=>hx ▸ h1
 ·rintro i p _ hp rfl
  have hi:=fQ hp
  obtain⟨q1,q2⟩:=DM.1 (agk hp)
  obtain⟨c,l1,l2⟩:=Tq hR hs hlen q1
  have hz:=Vo hR hr q1 q2
  have hsz:(df tk p).num.sign=0:=yB.2 hz
  have e0:(mO N tk).az=(N:Int):=rfl
  refine⟨_,?_,rfl⟩
  simp only[eX]
  rw[zzp (by rw[mo];simp;omega),ee (DP hp),ahr,zzn (by simp),e0,ahr,zzn (by simp;omega),ee (cV r q1),ahr,q2,zzn (by simp),l1,ahr,l2,ahr,hsz,zzn (by simp)]
  have hord:(if decide ((i:Int)>0)=true then (idx (iC (ig N r)) (if 0>IntKind.i64.wrap ((i:Int)-1) then 0 else IntKind.i64.wrap ((i:Int)-1))).bind fun x41=>some (decide (x41>=(p:Int))) else some false)=some false:=by
   by_cases h0:i=0
   ·subst h0;rw[zzn (by simp)]
   ·have hw:IntKind.i64.wrap ((i:Int)-1)=((i-1:Nat):Int):=by rw[jX (by omega)];omega
    have hg:(ig N r)[i-1]? = some ((ig N r)[i-1]'(by omega)):=af4 _
    have hlt:=(ahW.1 (aa2 N r)) (i-1) i (by omega) hi (by omega)
    have he:(ig N r)[i]=p:=(agl.1 hp).2
    rw[zzp (by simp;omega),hw,zzn (by omega),ee (DP hg),ahr,decide_eq_false (by omega)]
  rw[hord,ahr,zzn (by simp),ee (cV _ q1),ahr,agR,nF,fJ (by omega)]
  have htk:(ig N r).take (i+1)=(ig N r).take i++[p]:=by
   obtain⟨hi',he⟩:=agl.1 hp
   rw[ain hi',he]
  rw[htk]
  congr 4
  funext q
  by_cases hq:q=p
  ·rw[zzp hq];simp[hq]
  ·rw[zzn hq];simp[hq]
 ·rintro _ rfl
  refine⟨_,?_,rfl⟩
  simp only[eX]
  rw[zzn (by rw[mo];simp),ahS]
  congr 3
  refine ahn fun p hp =>?_
  have hp:=ahx.1 hp
  by_cases h:r p = -1
  ·rw[decide_eq_true h,decide_eq_true (DM.2 ⟨hp,h⟩)]
  ·rw[decide_eq_false h,decide_eq_false (fun h'=>h (DM.1 h').2)]
theorem QG (hR:pD N tk) (hr:pC N tk r) (hs:∀t∈tk,LF t.2.2<=6) (hlen:tk.length<=40) (hN:N<=12) (x:Int) :
  ∃c,bc (fZ (mO N tk) x ((List.range N).map r) ((List.range N).map fun p=>decide (r p = -1))) (true,(0:Int))=some (.inl c)∧(c=true->∀p,p<N->vC x p=true->df tk p=0):=by
 have e0:(mO N tk).az=(N:Int):=rfl
 obtain⟨q,h1,c,h2,h3⟩:=ez (body:=fZ (mO N tk) x ((List.range N).map r) ((List.range N).map fun p=>decide (r p = -1)))
  (fun i st=>st.2=(i:Int)∧(st.1=true->∀p,p<i->vC x p=true->df tk p=0)) N (fun q=>∃c,q=.inl c∧(c=true->∀p,p<N->vC x p=true->df tk p=0)) (s:=(true,(0:Int))) ⟨rfl,fun _ p hp=>by omega⟩ (mM (by omega)) (by
   rintro i ⟨c,k⟩ hi ⟨hk,hc⟩
   simp only at hk hc
   subst hk
   simp only[fZ]
   rw[e0]
   by_cases hin:i<N
   ·left
    refine⟨hin,?_⟩
    have hb:(decide (r i = -1)==(r i == -1))=true:=by
     by_cases h:r i = -1
     ·rw[h];rfl
     ·rw[decide_eq_false h,beq_eq_false_iff_ne.2 h];rfl
    rw[zzp (decide_eq_true (by omega)),ee (cV _ hin),ahr,ee (cV r hin),ahr,hb,zzn (by simp),fJ (by omega)]
    cases c with
    | false=>exact⟨_,rfl,rfl,fun h=>by cases h⟩
    | true =>
     simp only[if_true]
     rw[TV,ahr,ads]
     cases hbi:vC x i with
     | false =>
      refine⟨_,rfl,rfl,fun _ p hp hbp =>?_⟩
      by_cases hpi:p=i
      ·subst hpi;rw[hbi]at hbp;cases hbp
      ·exact hc rfl p (by omega) hbp
     | true =>
      obtain⟨d,l1,l2⟩:=Tq hR hs hlen hin
      simp only[ahk,ags,if_false]
      rw[l1,ahr,l2,ahr]
      refine⟨_,rfl,rfl,fun h p hp hbp =>?_⟩
      by_cases hpi:p=i
      ·subst hpi
       exact yB.1 (by simpa using h)
      ·exact hc rfl p (by omega) hbp
   ·right
    have:i=N:=by omega
    subst this
    rw[zzn (by simp)]
    exact⟨_,rfl,c,rfl,hc⟩)
 exact⟨c,by rw[h1,h2],h3⟩
theorem RH (hR:pD N tk) (hr:pC N tk r) (hlen:tk.length<=40) (x:Int) (c0:Bool) :
  ∃c,bc (gg (mO N tk) x ((List.range N).map fun p=>decide (r p = -1))) (c0,(0:Int))=some (.inl c)∧(c=true->c0=true∧∀t∈tk,vC x t.1=true->vC x t.2.1=true):=by
 have e3:(mO N tk).av=tk.map xR:=rfl
 obtain⟨q,h1,c,h2,h3⟩:=ez (body:=gg (mO N tk) x ((List.range N).map fun p=>decide (r p = -1)))
  (fun i st=>st.2=(i:Int)∧(st.1=true->c0=true∧∀t∈tk.take i,vC x t.1=true->vC x t.2.1=true)) tk.length (fun q=>∃c,q=.inl c∧(c=true->c0=true∧∀t∈tk,vC x t.1=true->vC x t.2.1=true)) (s:=(c0,(0:Int))) ⟨rfl,fun h=>⟨h,fun t ht=>by simp at ht⟩⟩ (mM (by omega)) (by
   rintro i ⟨c,k⟩ hi ⟨hk,hc⟩
   simp only at hk hc
   subst hk
   simp only[gg]
   rw[e3]
   by_cases hin:i<tk.length
   ·left
    refine⟨hin,?_⟩
    have ht:tk[i]? = some tk[i]:=af4 hin
    generalize tk[i]=t at ht
    have hmem:=agk ht
    obtain⟨q1,q2,_⟩:=hR.ok t hmem
    have hg:(tk.map xR)[i]? = some (xR t):=by rw[afO,ht];rfl
    have w2:(xR t).gA=(t.2.1:Int):=rfl
    have w3:(xR t).bT=(t.1:Int):=rfl
    have htake:∀u∈tk.take (i+1),u∈tk.take i∨u=t:=fun u hu=>by
     obtain⟨hi',he⟩:=agl.1 ht
     rw[ain hi',he]at hu
     rcases ag7.1 hu with h|h
     ·exact .inl h
     ·exact .inr (by simpa using h)
    have hbad:(if decide (r t.1 = -1)=true then (idx ((List.range N).map fun p=>decide (r p = -1)) (t.2.1:Int)).bind fun x90=>some (!x90) else some false)=some false:=by
     rw[ee (cV _ q2),ahr]
     by_cases h:r t.1 = -1
     ·have h1:=hr.near t hmem
      have h2:=hr.ge _ q2
      rw[zzp (decide_eq_true h),decide_eq_true (show r t.2.1 = -1 by omega)];rfl
     ·rw[zzn (by simpa using h)]
    rw[zzp (by simp;omega),ee hg,ahr,w3,ee (cV _ q1),ahr,w2,hbad,ahr,zzn (by simp),fJ (by omega)]
    cases c with
    | false=>exact⟨_,rfl,rfl,fun h=>by cases h⟩
    | true =>
     simp only[if_true]
     rw[TV,ahr,ads]
     cases hbi:vC x t.1 with
     | false =>
      refine⟨_,rfl,rfl,fun _=>⟨(hc rfl).1,fun u hu hb =>?_⟩⟩
      rcases htake u hu with h|rfl
      ·exact (hc rfl).2 u h hb
      ·rw[hbi]at hb;cases hb
     | true =>
      simp only[ahk,ags,if_false]
      rw[TV,ahr,adt]
      refine⟨_,rfl,rfl,fun h'=>⟨(hc rfl).1,fun u hu hb =>?_⟩⟩
      rcases htake u hu with h|rfl
      ·exact (hc rfl).2 u h hb
      ·exact h'
   ·right
    have:i=tk.length:=by omega
    subst this
    rw[zzn (by simp)]
    exact⟨_,rfl,c,rfl,fun h=>by have:=hc h;rw[ahS]at this;exact this⟩)
 exact⟨c,by rw[h1,h2],h3⟩
theorem sW (hR:pD N tk) (hr:pC N tk r) {S:Nat->Prop} (h1:∀p,p<N->S p->df tk p=0) (h2:∀t∈tk,S t.1->S t.2.1):∀(k:Nat) (p:Nat),p<N->S p->r p≠(k:Int)
 | 0,p,hp,hS,h=>by
  have:=(hr.zero p hp).1 (by simpa using h)
  have:=h1 p hp hS
  grind
 | k+1,p,hp,hS,h=>by
  obtain⟨t,ht,rfl,h3⟩:=hr.down p hp (by omega)
  exact sW hR hr h1 h2 k t.2.1 (hR.ok t ht).2.1 (h2 t ht hS) (by omega)
end
theorem Ff (a0:cu) (a1:Int) (h0:a0.av.length<=17592186044416):fD a0 a1=some true:=by
 obtain⟨b,e1,e2⟩:=Ys h0
 unfold fD
 rw[acH,ahr,e1,ahr]
 cases b with
 | false=>rfl
 | true =>
 obtain⟨c,c1,c2⟩:=e2 rfl
 simp only[ahk,ags,if_false]
 rw[c1,ahr,ahr]
 cases c with
 | false=>rfl
 | true =>
 obtain⟨N,tk,r,rfl,hR,hs,hlen,hN,hr1,hr⟩:=c2 rfl
 obtain⟨d,hd1,hd2⟩:=QG hR hr hs hlen hN a1
 obtain⟨f,hf1,hf2⟩:=RH hR hr hlen a1 d
 have e0:(mO N tk).az=(N:Int):=rfl
 simp only[ahk,ags,if_false]
 rw[hr1,ahr]
 simp only[agm,agn]
 rw[zzn (by simp[mO]),e0,Tz _ (by omega) (by omega),ahr,RJ (by omega) hr1,ahr,VO hR hr hs hlen hN,ahr]
 simp only
 rw[hd1,ahr]
 simp only
 rw[hf1,ahr]
 simp only
 cases f with
 | false =>
  have:bc (eE (mO N tk) a1 ((List.range N).map fun p=>decide (r p = -1)) false) 0=some (.inl ()):=by
   refine Du (n:=FU-1) ?_
   simp only[eE]
   split<;>rfl
  rw[this];rfl
 | true =>
  obtain⟨f1,f2⟩:=hf2 rfl
  have f3:=hd2 f1
  rw[TT (List.range N) (fun _ _=>(none:Option Bool)) (by simp;omega) (fun i q hq =>?_) (by simp only[eE];rw[e0,zzn (by simp)];rfl)]
  ·have hno:∀(l:List Nat) i,j8 (fun _ _=>(none:Option Bool)) i l=none:=by
    intro l
    induction l with
    | nil=>intro i;rfl
    | cons a l ih=>intro i;simp only[j8];exact ih _
   rw[hno];rfl
  ·have hi:i<N:=by have:=fQ hq;simpa using this
   simp only[eE]
   rw[e0,zzp (decide_eq_true (by omega)),ahr,zzp rfl,TV,ahr,adt,fJ (by omega)]
   cases hb:vC a1 i with
   | false=>rfl
   | true =>
    have hge:=hr.ge i hi
    have hm:r i = -1:=by
     by_cases h:0<=r i
     ·exact absurd (Int.toNat_of_nonneg h).symm (sW hR hr (S:=fun p=>vC a1 p=true) (fun p hp h=>f3 p hp h) f2 (r i).toNat i hi hb)
     ·omega
    rw[zzp rfl,ee (cV _ hi),ahr,decide_eq_true hm]
    rfl
end Go.Proofs.YtmcncjgbkobjnaaGreat.P
