/- Part of a proof, made small by a program (wip/mini.py). -/
import Derived.Test.YtchndpjlijbplaaMd
namespace Go.Proofs.Ytchndpjlijbplaa.Am
open Go.RowKit Go.Proofs.Ytchndpjlijbplaa.P
set_option maxRecDepth 100000
set_option maxHeartbeats 4000000
set_option linter.unusedSimpArgs false
set_option linter.unusedVariables false
theorem xF (p0:Int) (p1:Int):wV none [.int .i64 p0,.int .i64 p1]=(tP p0 p1).map fun r:ak×Int=>(.clean (.tup [.agg [.int .i64 r.1.aH.ag,.sl false false r.1.aH.aa.length (ae (eI .i64) r.1.aH.aa),.int .i64 r.1.aJ.ag,.sl false false r.1.aJ.aa.length (ae (eI .i64) r.1.aJ.aa)],.int .i64 r.2]),none):=aV _ _ _ (p0,p1)
noncomputable def xn:Env:=(Am.ext (Am.ext a6 58 false AK) 74 false yd)
theorem SU:bC Try.prog xn:=((bC.none.add Tu false).add Ph false)
theorem W2:type_of% (ai @w<|ai @MP<|ai @GH<|@xn.eq_1):=⟨@w,@MP,@GH,@xn.eq_1⟩
theorem VA (p0:Int) (p1:Int) (r:ak×Int) (hh:tP p0 p1=some r):a7 .clean tab xn FU Try.f46 none [.int .i64 p0,.int .i64 p1]=some (.clean (.tup [.agg [.int .i64 r.1.aH.ag,.sl false false r.1.aH.aa.length (ae (eI .i64) r.1.aH.aa),.int .i64 r.1.aJ.ag,.sl false false r.1.aJ.aa.length (ae (eI .i64) r.1.aJ.aa)],.int .i64 r.2]),none):=by
 refine aB rfl Try.ntmps46 Try.results46 ?_
 unfold tP at hh
 obtain⟨r1,hr1,hh⟩:=ah hh
 obtain⟨r2,hr2,hh⟩:=ah hh
 obtain⟨r3,hr3,hh⟩:=ah hh
 cases hh
 try simp only[W2,seval,hr1,hr2,hr3]
theorem Gr:bW Try.prog 46 wV:=bW.of (mode := .clean) tok SU mixed Try.func46 (by kernel_rfl) ⟨by kernel_rfl,by kernel_rfl⟩ (fun _=>aej (by kernel_rfl)) (fun x r h=>VA x.1 x.2 r h)
noncomputable def wa:=fU (jg (aI .i64) (jg (aI .i64) (jg (aI .i64) (fQ (aI .i64))))) (fun x:Int×Int×Int×Int=>jO x.1 x.2.1 x.2.2.1 x.2.2.2) (fun r:dk =>.clean (.agg [.int .i64 r.dj,.int .i64 r.lG,.int .i64 r.bd.aH.ag,.sl false false r.bd.aH.aa.length (ae (eI .i64) r.bd.aH.aa),.int .i64 r.bd.aJ.ag,.sl false false r.bd.aJ.aa.length (ae (eI .i64) r.bd.aJ.aa)]))
theorem C7 (p0:Int) (p1:Int) (p2:Int) (p3:Int):wa none [.int .i64 p0,.int .i64 p1,.int .i64 p2,.int .i64 p3]=(jO p0 p1 p2 p3).map fun r:dk=>(.clean (.agg [.int .i64 r.dj,.int .i64 r.lG,.int .i64 r.bd.aH.ag,.sl false false r.bd.aH.aa.length (ae (eI .i64) r.bd.aH.aa),.int .i64 r.bd.aJ.ag,.sl false false r.bd.aJ.aa.length (ae (eI .i64) r.bd.aJ.aa)]),none):=aV _ _ _ (p0,p1,p2,p3)
noncomputable def rq:Env:=(Am.ext a6 46 false wV)
theorem KL:bC Try.prog rq:=(bC.none.add Gr false)
theorem P4:type_of% (ai @w<|ai @xF<|@rq.eq_1):=⟨@w,@xF,@rq.eq_1⟩
theorem OW (p0:Int) (p1:Int) (p2:Int) (p3:Int) (r:dk) (hh:jO p0 p1 p2 p3=some r):a7 .clean tab rq FU Try.f31 none [.int .i64 p0,.int .i64 p1,.int .i64 p2,.int .i64 p3]=some (.clean (.agg [.int .i64 r.dj,.int .i64 r.lG,.int .i64 r.bd.aH.ag,.sl false false r.bd.aH.aa.length (ae (eI .i64) r.bd.aH.aa),.int .i64 r.bd.aJ.ag,.sl false false r.bd.aJ.aa.length (ae (eI .i64) r.bd.aJ.aa)]),none):=by
 refine aB rfl Try.ntmps31 Try.results31 ?_
 unfold jO at hh
 obtain⟨r1,hr1,hh⟩:=ah hh
 cases hh
 try simp only[P4,seval,hr1]
theorem MB:bW Try.prog 31 wa:=bW.of (mode := .clean) tok KL mixed Try.func31 (by kernel_rfl) ⟨by kernel_rfl,by kernel_rfl⟩ (fun _=>aej (by kernel_rfl)) (fun x r h=>OW x.1 x.2.1 x.2.2.1 x.2.2.2 r h)
noncomputable def uk:=fU (fQ (aI .i64)) (fun x:Int=>nP x) (fun r:ak =>.clean (.agg [.int .i64 r.aH.ag,.sl false false r.aH.aa.length (ae (eI .i64) r.aH.aa),.int .i64 r.aJ.ag,.sl false false r.aJ.aa.length (ae (eI .i64) r.aJ.aa)]))
theorem u5 (p0:Int):uk none [.int .i64 p0]=(nP p0).map fun r:ak=>(.clean (.agg [.int .i64 r.aH.ag,.sl false false r.aH.aa.length (ae (eI .i64) r.aH.aa),.int .i64 r.aJ.ag,.sl false false r.aJ.aa.length (ae (eI .i64) r.aJ.aa)]),none):=aV _ _ _ (p0)
noncomputable def uQ:Env:=(Am.ext a6 46 false wV)
theorem OD:bC Try.prog uQ:=(bC.none.add Gr false)
theorem TL:type_of% (ai @w<|ai @xF<|@uQ.eq_1):=⟨@w,@xF,@uQ.eq_1⟩
theorem Ti (p0:Int) (r:ak) (hh:nP p0=some r):a7 .clean tab uQ FU Try.f17 none [.int .i64 p0]=some (.clean (.agg [.int .i64 r.aH.ag,.sl false false r.aH.aa.length (ae (eI .i64) r.aH.aa),.int .i64 r.aJ.ag,.sl false false r.aJ.aa.length (ae (eI .i64) r.aJ.aa)]),none):=by
 refine aB rfl Try.ntmps17 Try.results17 ?_
 unfold nP at hh
 obtain⟨r1,hr1,hh⟩:=ah hh
 cases hh
 try simp only[TL,seval,hr1]
theorem CW:bW Try.prog 17 uk:=bW.of (mode := .clean) tok OD mixed Try.func17 (by kernel_rfl) ⟨by kernel_rfl,by kernel_rfl⟩ (fun _=>aej (by kernel_rfl)) (fun x r h=>Ti x r h)
noncomputable def qB:=fU (fQ (mX (eI .i64))) (fun x:(List Int)=>jN x) (fun r:(List ak) =>.clean (.sl false false r.length (ae ay r)))
theorem iZ (p0:(List Int)):qB none [.sl false false p0.length (ae (eI .i64) p0)]=(jN p0).map fun r:(List ak)=>(.clean (.sl false false r.length (ae ay r)),none):=aV _ _ _ (p0)
noncomputable def rn:Env:=(Am.ext a6 17 false uk)
theorem KJ:bC Try.prog rn:=(bC.none.add CW false)
theorem je:type_of% (ai @w<|ai @u5<|@rn.eq_1):=⟨@w,@u5,@rn.eq_1⟩
theorem OU (p0:(List Int)) (r:(List ak)) (hh:jN p0=some r):a7 .clean tab rn FU Try.f32 none [.sl false false p0.length (ae (eI .i64) p0)]=some (.clean (.sl false false r.length (ae ay r)),none):=by
 refine aB rfl Try.ntmps32 Try.results32 ?_
 unfold jN at hh
 try simp only[je,seval]
 obtain⟨o6,ho6,hh⟩:=ah hh
 refine aA (fun s t H e=>match s with|(s4a,l3a)=>∃v3a:Nat,t 0=.sl false false p0.length (ae (eI .i64) p0)∧t 3=.buf 3 v3a 4 0 (l3a).length∧t 4=.int .i64 s4a∧H 3=some ⟨v3a,41,ae ay l3a,false,true,false⟩) (fun o x t H e=>match o with|l3ax=>x=.exit 0∧∃v3ax:Nat,t 3=.buf 3 v3ax 4 0 (l3ax).length∧H 3=some ⟨v3ax,41,ae ay l3ax,false,true,false⟩) ho6 ?_ ?_ ?_
 ·refine⟨1,?_,?_,?_,?_⟩
  all_goals first|rfl|(simp only[je,seval]<;>rfl)
 ·rintro⟨s4a,l3a⟩ t H e ⟨v3a,Za⟩ c hh
  simp only[zx]at hh
  try simp only[je,seval,Za]
  refine sp an hh (fun _ hh =>?_) (fun _ hh =>?_)
  ·obtain⟨x8,hx8,hh⟩:=ah hh
   have ax8:=bN (eI .i64) hx8
   simp only[bJ]at ax8
   obtain⟨r9,hr9,hh⟩:=ah hh
   obtain⟨x10,hx10,hh⟩:=ah hh
   obtain⟨q11a,q11b,q11c,q11d⟩:=iK ay hx10
   simp only[bJ]at q11b
   cases hh
   try simp only[je,seval,Za,ax8,hr9,q11a,q11b,q11c,q11d]
   refine j5 ?_
   refine⟨e+1,?_,?_,?_,?_⟩
   all_goals first|rfl|(simp only[je,seval,Za,ax8,hr9,q11a,q11b,q11c,q11d]<;>rfl)
  ·cases hh
   try simp only[je,seval,Za]
   refine ll ?_
   refine⟨rfl,⟨v3a,?_,?_⟩⟩
   all_goals first|rfl|(simp only[je,seval,Za]<;>rfl)
 ·rintro x t H e hx
  obtain⟨l3ax,rfl⟩:∃z,z=o6:=⟨_,rfl⟩
  dsimp only at hx hh
  obtain⟨rfl,⟨v3ax,Zax⟩⟩:=hx
  cases hh
  try simp only[je,seval,Zax]
theorem zE:bW Try.prog 32 qB:=bW.of (mode := .clean) tok KJ mixed Try.func32 (by kernel_rfl) ⟨by kernel_rfl,by kernel_rfl⟩ (fun _=>aej (by kernel_rfl)) (fun x r h=>OU x r h)
noncomputable def ng:=fU (jg (aI .i64) (jg (aI .i64) (fQ (aI .i64)))) (fun x:Int×Int×Int=>fA x.1 x.2.1 x.2.2) (fun r:Bool =>.clean (.bool r))
theorem nK (p0:Int) (p1:Int) (p2:Int):ng none [.int .i64 p0,.int .i64 p1,.int .i64 p2]=(fA p0 p1 p2).map fun r:Bool=>(.clean (.bool r),none):=aV _ _ _ (p0,p1,p2)
theorem Ie (p0:Int) (p1:Int) (p2:Int) (r:Bool) (hh:fA p0 p1 p2=some r):a7 .clean tab a6 FU Try.f34 none [.int .i64 p0,.int .i64 p1,.int .i64 p2]=some (.clean (.bool r),none):=by
 refine aB rfl Try.ntmps34 Try.results34 ?_
 unfold fA at hh
 try simp only[w,seval]
 refine sp dW hh (fun _ hh =>?_) (fun _ hh =>?_)
 ·cases hh
  try simp only[w,seval]
 ·cases hh
  try simp only[w,seval]
theorem vP:bW Try.prog 34 ng:=bW.of (mode := .clean) tok bC.none mixed Try.func34 (by kernel_rfl) ⟨by kernel_rfl,by kernel_rfl⟩ (fun _=>aej (by kernel_rfl)) (fun x r h=>Ie x.1 x.2.1 x.2.2 r h)
noncomputable def eC:=fU (fQ (de eL)) (fun x:al=>cn x) (fun r:Bool =>.clean (.bool r))
theorem cj (p0_0:Int) (p0_1:(List Int)):eC none [.agg [.int .i64 p0_0,.sl false false p0_1.length (ae (eI .i64) p0_1)]]=(cn (al.mk p0_0 p0_1)).map fun r:Bool=>(.clean (.bool r),none):=aV _ _ _ ((al.mk p0_0 p0_1))
theorem LQ (p0:al) (r:Bool) (hh:cn p0=some r):a7 .clean tab a6 FU Try.f50 none [.agg [.int .i64 p0.ag,.sl false false p0.aa.length (ae (eI .i64) p0.aa)]]=some (.clean (.bool r),none):=by
 refine aB rfl Try.ntmps50 Try.results50 ?_
 unfold cn at hh
 try simp only[w,seval]
 obtain⟨o5,ho5,hh⟩:=ah hh
 refine aA (fun s t H e=>match s with|s12a=>∃v1a:Nat,t 1=.ptr 1 v1a 0∧t 3=.int .i64 (p0.aa.length:Int)∧t 10=.sl false false p0.aa.length (ae (eI .i64) p0.aa)∧t 11=.int .i64 (p0.aa.length:Int)∧t 12=.int .i64 s12a∧H 1=some ⟨v1a,39,[.int .i64 p0.ag,.sl false false p0.aa.length (ae (eI .i64) p0.aa)],false,false,false⟩) (fun o x t H e=>match o with|(.inl _)=>x=.exit 0∧∃v1ax:Nat,t 1=.ptr 1 v1ax 0∧t 3=.int .i64 (p0.aa.length:Int)∧H 1=some ⟨v1ax,39,[.int .i64 p0.ag,.sl false false p0.aa.length (ae (eI .i64) p0.aa)],false,false,false⟩|(.inr r)=>x=.ret∧jl .clean tab none [.tmp 2] ⟨t,EH H,e⟩=some (.clean (.bool r),none)) ho5 ?_ ?_ ?_
 ·refine⟨0,?_,?_,?_,?_,?_,?_⟩
  all_goals first|rfl|(simp only[w,seval]<;>rfl)
 ·rintro s12a t H e ⟨v1a,Za⟩ c hh
  simp only[nn]at hh
  try simp only[w,seval,Za]
  refine sp an hh (fun _ hh =>?_) (fun _ hh =>?_)
  ·obtain⟨x7,hx7,hh⟩:=ah hh
   have ax7:=bN (eI .i64) hx7
   simp only[bJ]at ax7
   try simp only[w,seval,Za,ax7]
   refine sp bB hh (fun _ hh =>?_) (fun _ hh =>?_)
   ·cases hh
    try simp only[w,seval,Za,ax7]
    refine IZ ⟨rfl,?_⟩
    try simp only[w,seval,Za,ax7]
   ·try simp only[w,seval,Za,ax7]
    refine sp an hh (fun _ hh =>?_) (fun _ hh =>?_)
    ·cases hh
     try simp only[w,seval,Za,ax7]
     refine IZ ⟨rfl,?_⟩
     try simp only[w,seval,Za,ax7]
    ·cases hh
     try simp only[w,seval,Za,ax7]
     refine j5 ?_
     refine⟨v1a,?_,?_,?_,?_,?_,?_⟩
     all_goals first|rfl|(simp only[w,seval,Za,ax7]<;>rfl)
  ·cases hh
   try simp only[w,seval,Za]
   refine ll ?_
   refine⟨rfl,⟨v1a,?_,?_,?_⟩⟩
   all_goals first|rfl|(simp only[w,seval,Za]<;>rfl)
 ·rintro x t H e hx
  rcases o5 with _|ra
  ·dsimp only at hx hh
   obtain⟨rfl,⟨v1ax,Zax⟩⟩:=hx
   try simp only[w,seval,Zax]
   refine sp an hh (fun _ hh =>?_) (fun _ hh =>?_)
   ·cases hh
    try simp only[w,seval,Zax]
   ·try simp only[w,seval,Zax]
    refine sp bB hh (fun _ hh =>?_) (fun _ hh =>?_)
    ·obtain⟨x12,hx12,hh⟩:=ah hh
     have ax12:=bN (eI .i64) hx12
     simp only[bJ]at ax12
     cases hh
     try simp only[w,seval,Zax,ax12]
    ·try simp only[w,seval,Zax]
     refine sp dW hh (fun _ hh =>?_) (fun _ hh =>?_)
     ·obtain⟨x14,hx14,hh⟩:=ah hh
      have ax14:=bN (eI .i64) hx14
      simp only[bJ]at ax14
      cases hh
      try simp only[w,seval,Zax,ax14]
     ·cases hh
      try simp only[w,seval,Zax]
  ·dsimp only at hx hh
   obtain⟨rfl,hE⟩:=hx
   cases hh
   try simp only[bP,bH,b7,eH,eE,dI,dJ]
   exact hE
theorem fe:bW Try.prog 50 eC:=bW.of (mode := .clean) tok bC.none mixed Try.func50 (by kernel_rfl) ⟨by kernel_rfl,by kernel_rfl⟩ (fun _=>aej (by kernel_rfl)) (fun x r h=>LQ x r h)
noncomputable def jH:=fU (jg Z6 (fQ (de eL))) (fun x:Bool×al=>dH x.1 x.2) (fun r:al×Int =>.clean (.tup [.agg [.int .i64 r.1.ag,.sl false false r.1.aa.length (ae (eI .i64) r.1.aa)],.int .i64 r.2]))
theorem ez (p0:Bool) (p1_0:Int) (p1_1:(List Int)):jH none [.bool p0,.agg [.int .i64 p1_0,.sl false false p1_1.length (ae (eI .i64) p1_1)]]=(dH p0 (al.mk p1_0 p1_1)).map fun r:al×Int=>(.clean (.tup [.agg [.int .i64 r.1.ag,.sl false false r.1.aa.length (ae (eI .i64) r.1.aa)],.int .i64 r.2]),none):=aV _ _ _ (p0,(al.mk p1_0 p1_1))
theorem D0 (p0:Bool) (p1:al) (r:al×Int) (hh:dH p0 p1=some r):a7 .clean tab a6 FU Try.f75 none [.bool p0,.agg [.int .i64 p1.ag,.sl false false p1.aa.length (ae (eI .i64) p1.aa)]]=some (.clean (.tup [.agg [.int .i64 r.1.ag,.sl false false r.1.aa.length (ae (eI .i64) r.1.aa)],.int .i64 r.2]),none):=by
 refine aB rfl Try.ntmps75 Try.results75 ?_
 unfold dH at hh
 try simp only[w,seval]
 refine sp an hh (fun _ hh =>?_) (fun _ hh =>?_)
 ·cases hh
  try simp only[w,seval]
 ·cases hh
  try simp only[w,seval]
theorem oG:bW Try.prog 75 jH:=bW.of (mode := .clean) tok bC.none mixed Try.func75 (by kernel_rfl) ⟨by kernel_rfl,by kernel_rfl⟩ (fun _=>aej (by kernel_rfl)) (fun x r h=>D0 x.1 x.2 r h)
theorem yz (r:(List Int)) (hh:cB []=some r):a7 (.fresh 3 1) tab a6 FU Try.f82 none [.sl true true 0 []]=some (.fresh 3 1 r.length (ae (eI .i64) r),none):=by
 unfold cB at hh
 obtain⟨qa,qb,qc⟩:=As hh
 subst qa
 refine aB rfl Try.ntmps82 Try.results82 ?_
 simp only[w,seval,Nat.lt_irrefl]
theorem yA (r:(List Int)) (hh:cB []=some r):a7 (.fresh 3 1) tab a6 FU Try.f82 none [.sl true false 0 []]=some (.fresh 3 1 r.length (ae (eI .i64) r),none):=by
 unfold cB at hh
 obtain⟨qa,qb,qc⟩:=As hh
 subst qa
 refine aB rfl Try.ntmps82 Try.results82 ?_
 simp only[w,seval,Nat.lt_irrefl]
theorem yB (p0 r:(List Int)) (hp:0<p0.length) (hh:cB p0=some r):a7 (.fresh 3 1) tab a6 FU Try.f82 none [.sl false false p0.length (ae (eI .i64) p0)]=some (.fresh 3 1 r.length (ae (eI .i64) r),none):=by
 unfold cB at hh
 have hz:¬p0.length=0:=by omega
 obtain⟨qa,qb,qc⟩:=As hh
 subst qa
 refine aB rfl Try.ntmps82 Try.results82 ?_
 simp only[w,seval,hp,hz,qb,qc]
noncomputable def gH:=fU (fQ (mX (eI .i64))) (fun x:(List Int)=>cB x) (fun r:(List Int) =>.fresh 3 1 r.length (ae (eI .i64) r))
theorem eG (p0:(List Int)):gH none [.sl false false p0.length (ae (eI .i64) p0)]=(cB p0).map fun r:(List Int)=>(.fresh 3 1 r.length (ae (eI .i64) r),none):=aV _ _ _ p0
theorem j6:bW Try.prog 82 gH:=bW.aas (mode:=(.fresh 3 1)) tok bC.none mixed Try.func82 (by kernel_rfl) ⟨by kernel_rfl,by kernel_rfl⟩ (aej (by kernel_rfl)) yz yA yB
noncomputable def sP:=fU (fQ (aI .i64)) (fun x:Int=>lT x) (fun r:Bool =>.clean (.bool r))
theorem zL (p0:Int):sP none [.int .i64 p0]=(lT p0).map fun r:Bool=>(.clean (.bool r),none):=aV _ _ _ (p0)
theorem LS (p0:Int) (r:Bool) (hh:lT p0=some r):a7 .clean tab a6 FU Try.f96 none [.int .i64 p0]=some (.clean (.bool r),none):=by
 refine aB rfl Try.ntmps96 Try.results96 ?_
 unfold lT at hh
 cases hh
 try simp only[w,seval]
theorem Is:bW Try.prog 96 sP:=bW.of (mode := .clean) tok bC.none mixed Try.func96 (by kernel_rfl) ⟨by kernel_rfl,by kernel_rfl⟩ (fun _=>aej (by kernel_rfl)) (fun x r h=>LS x r h)
noncomputable def iu:=fU (jg (aI .i64) (fQ (aI .i64))) (fun x:Int×Int=>ee x.1 x.2) (fun r:Int =>.clean (.int .i64 r))
theorem fk (p0:Int) (p1:Int):iu none [.int .i64 p0,.int .i64 p1]=(ee p0 p1).map fun r:Int=>(.clean (.int .i64 r),none):=aV _ _ _ (p0,p1)
noncomputable def mj:Env:=(Am.ext a6 96 false sP)
theorem Ca:bC Try.prog mj:=(bC.none.add Is false)
theorem du:type_of% (ai @w<|ai @zL<|@mj.eq_1):=⟨@w,@zL,@mj.eq_1⟩
theorem D2 (p0:Int) (p1:Int) (r:Int) (hh:ee p0 p1=some r):a7 .clean tab mj FU Try.f66 none [.int .i64 p0,.int .i64 p1]=some (.clean (.int .i64 r),none):=by
 refine aB rfl Try.ntmps66 Try.results66 ?_
 unfold ee at hh
 obtain⟨r1,hr1,hh⟩:=ah hh
 obtain⟨r2,hr2,hh⟩:=ah hh
 try simp only[du,seval,hr1,hr2]
 refine sp an hh (fun _ hh =>?_) (fun _ hh =>?_)
 ·try simp only[du,seval,hr1,hr2]
  refine sp an hh (fun _ hh =>?_) (fun _ hh =>?_)
  ·cases hh
   try simp only[du,seval,hr1,hr2]
  ·cases hh
   try simp only[du,seval,hr1,hr2]
 ·try simp only[du,seval,hr1,hr2]
  refine sp an hh (fun _ hh =>?_) (fun _ hh =>?_)
  ·cases hh
   try simp only[du,seval,hr1,hr2]
  ·try simp only[du,seval,hr1,hr2]
   refine sp an hh (fun _ hh =>?_) (fun _ hh =>?_)
   ·cases hh
    try simp only[du,seval,hr1,hr2]
   ·try simp only[du,seval,hr1,hr2]
    refine sp an hh (fun _ hh =>?_) (fun _ hh =>?_)
    ·cases hh
     try simp only[du,seval,hr1,hr2]
    ·cases hh
     try simp only[du,seval,hr1,hr2]
theorem lx:bW Try.prog 66 iu:=bW.of (mode := .clean) tok Ca mixed Try.func66 (by kernel_rfl) ⟨by kernel_rfl,by kernel_rfl⟩ (fun _=>aej (by kernel_rfl)) (fun x r h=>D2 x.1 x.2 r h)
noncomputable def jI:=fU (jg (mX (eI .i64)) (fQ (mX (eI .i64)))) (fun x:(List Int)×(List Int)=>eD x.1 x.2) (fun r:Int =>.clean (.int .i64 r))
theorem iC (p0:(List Int)) (p1:(List Int)):jI none [.sl false false p0.length (ae (eI .i64) p0),.sl false false p1.length (ae (eI .i64) p1)]=(eD p0 p1).map fun r:Int=>(.clean (.int .i64 r),none):=aV _ _ _ (p0,p1)
noncomputable def mi:Env:=(Am.ext a6 66 false iu)
theorem B9:bC Try.prog mi:=(bC.none.add lx false)
theorem cv:type_of% (ai @w<|ai @fk<|@mi.eq_1):=⟨@w,@fk,@mi.eq_1⟩
theorem D1 (p0:(List Int)) (p1:(List Int)) (r:Int) (hh:eD p0 p1=some r):a7 .clean tab mi FU Try.f78 none [.sl false false p0.length (ae (eI .i64) p0),.sl false false p1.length (ae (eI .i64) p1)]=some (.clean (.int .i64 r),none):=by
 refine aB rfl Try.ntmps78 Try.results78 ?_
 unfold eD at hh
 try simp only[cv,seval]
 refine sp an hh (fun _ hh =>?_) (fun _ hh =>?_)
 ·obtain⟨r2,hr2,hh⟩:=ah hh
  cases hh
  try simp only[cv,seval,hr2]
 ·try simp only[cv,seval]
  obtain⟨o8,ho8,hh⟩:=ah hh
  refine aA (fun s t H e=>match s with|s5a=>t 0=.sl false false p0.length (ae (eI .i64) p0)∧t 1=.sl false false p1.length (ae (eI .i64) p1)∧t 5=.int .i64 s5a) (fun o x t H e=>match o with|(.inl _)=>x=.exit 0|(.inr r)=>x=.ret∧jl .clean tab none [.tmp 4] ⟨t,EH H,e⟩=some (.clean (.int .i64 r),none)) ho8 ?_ ?_ ?_
  ·refine⟨?_,?_,?_⟩
   all_goals first|rfl|(simp only[cv,seval]<;>rfl)
  ·rintro s5a t H e Za c hh
   simp only[kU]at hh
   try simp only[cv,seval,Za]
   refine sp an hh (fun _ hh =>?_) (fun _ hh =>?_)
   ·obtain⟨x10,hx10,hh⟩:=ah hh
    have ax10:=bN (eI .i64) hx10
    simp only[bJ]at ax10
    obtain⟨x11,hx11,hh⟩:=ah hh
    have ax11:=bN (eI .i64) hx11
    simp only[bJ]at ax11
    try simp only[cv,seval,Za,ax10,ax11]
    refine bo (by kernel_rfl) ?_
    try simp only[cv,seval,Za,ax10,ax11]
    refine sp an hh (fun _ hh =>?_) (fun _ hh =>?_)
    ·have ax10:=bN (eI .i64) hx10
     simp only[bJ]at ax10
     have ax11:=bN (eI .i64) hx11
     simp only[bJ]at ax11
     obtain⟨r13,hr13,hh⟩:=ah hh
     try simp only[cv,seval,Za,ax10,ax11,ax10,ax11,hr13]
     refine bo (by kernel_rfl) ?_
     cases hh
     try simp only[cv,seval,Za,ax10,ax11,ax10,ax11,hr13]
     refine IZ ⟨rfl,?_⟩
     try simp only[cv,seval,Za,ax10,ax11,ax10,ax11,hr13]
    ·cases hh
     try simp only[cv,seval,Za,ax10,ax11]
     refine j5 ?_
     refine⟨?_,?_,?_⟩
     all_goals first|rfl|(simp only[cv,seval,Za,ax10,ax11]<;>rfl)
   ·cases hh
    try simp only[cv,seval,Za]
    refine ll ?_
    exact rfl
  ·rintro x t H e hx
   rcases o8 with _|ra
   ·dsimp only at hx hh
    subst hx
    cases hh
    try simp only[cv,seval]
   ·dsimp only at hx hh
    obtain⟨rfl,hE⟩:=hx
    cases hh
    try simp only[bP,bH,b7,eH,eE,dI,dJ]
    exact hE
theorem oH:bW Try.prog 78 jI:=bW.of (mode := .clean) tok B9 mixed Try.func78 (by kernel_rfl) ⟨by kernel_rfl,by kernel_rfl⟩ (fun _=>aej (by kernel_rfl)) (fun x r h=>D1 x.1 x.2 r h)
noncomputable def j9:=fU (fQ (mX (eI .i64))) (fun x:(List Int)=>dp x) (fun r:(List Int) =>.clean (.sl false false r.length (ae (eI .i64) r)))
theorem eV (p0:(List Int)):j9 none [.sl false false p0.length (ae (eI .i64) p0)]=(dp p0).map fun r:(List Int)=>(.clean (.sl false false r.length (ae (eI .i64) r)),none):=aV _ _ _ (p0)
theorem OM (p0:(List Int)) (r:(List Int)) (hh:dp p0=some r):a7 .clean tab a6 FU Try.f102 none [.sl false false p0.length (ae (eI .i64) p0)]=some (.clean (.sl false false r.length (ae (eI .i64) r)),none):=by
 refine aB rfl Try.ntmps102 Try.results102 ?_
 unfold dp at hh
 try simp only[w,seval]
 obtain⟨o4,ho4,hh⟩:=ah hh
 refine aA (fun s t H e=>match s with|s3a=>t 0=.sl false false p0.length (ae (eI .i64) p0)∧t 3=.int .i64 s3a) (fun o x t H e=>match o with|s3ax=>x=.exit 0∧t 0=.sl false false p0.length (ae (eI .i64) p0)∧t 3=.int .i64 s3ax) ho4 ?_ ?_ ?_
 ·refine⟨?_,?_⟩
  all_goals first|rfl|(simp only[w,seval]<;>rfl)
 ·rintro s3a t H e Za c hh
  simp only[kx]at hh
  try simp only[w,seval,Za]
  refine sp dW hh (fun _ hh =>?_) (fun _ hh =>?_)
  ·obtain⟨x6,hx6,hh⟩:=ah hh
   have ax6:=bN (eI .i64) hx6
   simp only[bJ]at ax6
   try simp only[w,seval,Za,ax6]
   refine sp an hh (fun _ hh =>?_) (fun _ hh =>?_)
   ·cases hh
    try simp only[w,seval,Za,ax6]
    refine j5 ?_
    refine⟨?_,?_⟩
    all_goals first|rfl|(simp only[w,seval,Za,ax6]<;>rfl)
   ·cases hh
    try simp only[w,seval,Za,ax6]
    refine ll ?_
    refine⟨rfl,⟨?_,?_⟩⟩
    all_goals first|rfl|(simp only[w,seval,Za,ax6]<;>rfl)
  ·cases hh
   try simp only[w,seval,Za]
   refine ll ?_
   refine⟨rfl,⟨?_,?_⟩⟩
   all_goals first|rfl|(simp only[w,seval,Za]<;>rfl)
 ·rintro x t H e hx
  obtain⟨s3ax,rfl⟩:∃z,z=o4:=⟨_,rfl⟩
  dsimp only at hx hh
  obtain⟨rfl,Zax⟩:=hx
  obtain⟨x8,hx8,hh⟩:=ah hh
  obtain⟨q9a,q9b,q9c,q9d,q9e⟩:=IH (eI .i64) hx8
  simp only[bJ]at q9e
  cases hh
  try simp only[w,seval,Zax,q9a,q9b,q9c,q9d,q9e]
theorem mP:bW Try.prog 102 j9:=bW.of (mode := .clean) tok bC.none mixed Try.func102 (by kernel_rfl) ⟨by kernel_rfl,by kernel_rfl⟩ (fun _=>aej (by kernel_rfl)) (fun x r h=>OM x r h)
noncomputable def qy:=YH 3 (eI .i64) (as0) (fun (l:(List Int)) (x:Unit)=>dp l)
theorem IA (pre post:List D) (p0:(List Int)):qy (some (.buf 0 0 1 pre.length p0.length,⟨0,3,pre++(ae (eI .i64) p0++post),false,true,false⟩)) []=(dp p0).map fun r=>(.fresh 3 1 r.length (ae (eI .i64) r),none):=VB _ _ _ _ pre post p0 ()
theorem H9 (pre post:List D) (p0:(List Int)) (r:(List Int)) (hh:dp p0=some r):a7 (.fresh 3 1) tab a6 FU Try.f102 (some (.buf 0 0 1 pre.length p0.length,⟨0,3,pre++(ae (eI .i64) p0++post),false,true,false⟩)) []=some (.fresh 3 1 r.length (ae (eI .i64) r),none):=by
 refine DG rfl Try.ntmps102 Try.results102 ?_
 unfold dp at hh
 try simp only[w,seval]
 obtain⟨o4,ho4,hh⟩:=ah hh
 refine aA (fun s t H e=>match s with|s3a=>∃v0a:Nat,t 0=.buf 0 v0a 1 pre.length (p0).length∧t 3=.int .i64 s3a∧H 0=some ⟨v0a,3,pre++(ae (eI .i64) p0++post),false,true,false⟩) (fun o x t H e=>match o with|s3ax=>x=.exit 0∧∃v0ax:Nat,t 0=.buf 0 v0ax 1 pre.length (p0).length∧t 3=.int .i64 s3ax∧H 0=some ⟨v0ax,3,pre++(ae (eI .i64) p0++post),false,true,false⟩) ho4 ?_ ?_ ?_
 ·refine⟨0,?_,?_,?_⟩
  all_goals first|rfl|(simp only[w,seval]<;>rfl)
 ·rintro s3a t H e ⟨v0a,Za⟩ c hh
  simp only[kx]at hh
  try simp only[w,seval,Za]
  refine sp dW hh (fun _ hh =>?_) (fun _ hh =>?_)
  ·obtain⟨x6,hx6,hh⟩:=ah hh
   have ax6:=K8 (pre:=pre) (post:=post) (eI .i64) hx6
   simp only[bJ]at ax6
   try simp only[w,seval,Za,ax6]
   refine sp an hh (fun _ hh =>?_) (fun _ hh =>?_)
   ·cases hh
    try simp only[w,seval,Za,ax6]
    refine j5 ?_
    refine⟨v0a,?_,?_,?_⟩
    all_goals first|rfl|(simp only[w,seval,Za,ax6]<;>rfl)
   ·cases hh
    try simp only[w,seval,Za,ax6]
    refine ll ?_
    refine⟨rfl,⟨v0a,?_,?_,?_⟩⟩
    all_goals first|rfl|(simp only[w,seval,Za,ax6]<;>rfl)
  ·cases hh
   try simp only[w,seval,Za]
   refine ll ?_
   refine⟨rfl,⟨v0a,?_,?_,?_⟩⟩
   all_goals first|rfl|(simp only[w,seval,Za]<;>rfl)
 ·rintro x t H e hx
  obtain⟨s3ax,rfl⟩:∃z,z=o4:=⟨_,rfl⟩
  dsimp only at hx hh
  obtain⟨rfl,⟨v0ax,Zax⟩⟩:=hx
  obtain⟨x8,hx8,hh⟩:=ah hh
  obtain⟨q9a,q9b,q9c,q9d,q9e⟩:=IH (eI .i64) hx8
  simp only[bJ]at q9e
  obtain⟨q9f,q9g⟩:=XT (pre:=pre) (post:=post) (eI .i64) hx8
  simp only[bJ]at q9f q9g
  cases hh
  try simp only[w,seval,Zax,q9a,q9b,q9c,q9f,q9g,q9d]
theorem D9:bW Try.prog 102 qy:=bW.aap tok bC.none mixed Try.func102 (by kernel_rfl) ⟨by kernel_rfl,by kernel_rfl⟩ (fun _=>aej (by kernel_rfl)) (fun pre post l x r h=>H9 pre post l r h)
noncomputable def sO:=fU (jg (mX (eI .i64)) (fQ (aI .i64))) (fun x:(List Int)×Int=>kv x.1 x.2) (fun r:(List Int)×Int =>.clean (.tup [.sl false false r.1.length (ae (eI .i64) r.1),.int .i64 r.2]))
theorem zK (p0:(List Int)) (p1:Int):sO none [.sl false false p0.length (ae (eI .i64) p0),.int .i64 p1]=(kv p0 p1).map fun r:(List Int)×Int=>(.clean (.tup [.sl false false r.1.length (ae (eI .i64) r.1),.int .i64 r.2]),none):=aV _ _ _ (p0,p1)
noncomputable def pb:Env:=(Am.ext a6 102 false j9)
theorem HT:bC Try.prog pb:=(bC.none.add mP false)
theorem g9:type_of% (ai @w<|ai @eV<|@pb.eq_1):=⟨@w,@eV,@pb.eq_1⟩
theorem LR (p0:(List Int)) (p1:Int) (r:(List Int)×Int) (hh:kv p0 p1=some r):a7 .clean tab pb FU Try.f104 none [.sl false false p0.length (ae (eI .i64) p0),.int .i64 p1]=some (.clean (.tup [.sl false false r.1.length (ae (eI .i64) r.1),.int .i64 r.2]),none):=by
 refine aB rfl Try.ntmps104 Try.results104 ?_
 unfold kv at hh
 obtain⟨x1,hx1,hh⟩:=ah hh
 obtain⟨q2a,q2b,q2c,q2d,q2e⟩:=mk_one (eI .i64) hx1
 simp only[bJ]at q2d
 try simp only[g9,seval,-Int.reduceToNat,q2a,q2b,q2c,q2d,q2e]
 obtain⟨o13,ho13,hh⟩:=ah hh
 refine aA (fun s t H e=>match s with|(s7a,s8a,l6a)=>∃v6a:Nat,t 0=.sl false false p0.length (ae (eI .i64) p0)∧t 1=.int .i64 p1∧t 6=.buf 6 v6a 1 0 (l6a).length∧t 7=.int .i64 s7a∧t 8=.int .i64 s8a∧H 6=some ⟨v6a,3,ae (eI .i64) l6a,false,true,false⟩) (fun o x t H e=>match o with|(s7ax,l6ax)=>x=.exit 0∧∃v6ax:Nat,t 6=.buf 6 v6ax 1 0 (l6ax).length∧t 7=.int .i64 s7ax∧H 6=some ⟨v6ax,3,ae (eI .i64) l6ax,false,true,false⟩) ho13 ?_ ?_ ?_
 ·refine⟨1,?_,?_,?_,?_,?_,?_⟩
  all_goals first|rfl|(simp only[g9,seval,-Int.reduceToNat,q2a,q2b,q2c,q2d,q2e]<;>rfl)
 ·rintro⟨s7a,s8a,l6a⟩ t H e ⟨v6a,Za⟩ c hh
  simp only[ns]at hh
  try simp only[g9,seval,-Int.reduceToNat,q2a,q2b,q2c,q2d,q2e,Za]
  refine sp an hh (fun _ hh =>?_) (fun _ hh =>?_)
  ·obtain⟨x15,hx15,hh⟩:=ah hh
   have q16:=AF hx15
   obtain⟨x17,hx17,hh⟩:=ah hh
   have ax17:=bN (eI .i64) hx17
   simp only[bJ]at ax17
   obtain⟨x18,hx18,hh⟩:=ah hh
   have q19:=qW hx18
   obtain⟨x20,hx20,hh⟩:=ah hh
   have ax20:=bN (eI .i64) hx20
   simp only[bJ]at ax20
   have p21:=eN (eI .i64) (x':=x18) (fo:=0) (cs:=[.int .i64 x18]) hx20 rfl (aej rfl)
   simp only[bJ,Nat.add_zero]at p21
   have up21:=p21
   simp only[putCells,List.length_cons,List.length_nil,adq,Nat.reduceAdd]at up21
   obtain⟨x22,hx22,hh⟩:=ah hh
   have q23:=xw hx22
   cases hh
   try simp only[g9,seval,-Int.reduceToNat,q2a,q2b,q2c,q2d,q2e,Za,q16,ax17,q19,ax20,p21,up21,q23]
   refine j5 ?_
   refine⟨v6a,?_,?_,?_,?_,?_,?_⟩
   all_goals first|rfl|(simp only[g9,seval,-Int.reduceToNat,q2a,q2b,q2c,q2d,q2e,Za,q16,ax17,q19,ax20,p21,up21,q23]<;>rfl)
  ·cases hh
   try simp only[g9,seval,-Int.reduceToNat,q2a,q2b,q2c,q2d,q2e,Za]
   refine ll ?_
   refine⟨rfl,⟨v6a,?_,?_,?_⟩⟩
   all_goals first|rfl|(simp only[g9,seval,-Int.reduceToNat,q2a,q2b,q2c,q2d,q2e,Za]<;>rfl)
 ·rintro x t H e hx
  rcases o13 with⟨s7ax,l6ax⟩
  dsimp only at hx hh
  obtain⟨rfl,⟨v6ax,Zax⟩⟩:=hx
  obtain⟨r24,hr24,hh⟩:=ah hh
  cases hh
  try simp only[g9,seval,-Int.reduceToNat,q2a,q2b,q2c,q2d,q2e,Zax,hr24]
theorem Ir:bW Try.prog 104 sO:=bW.of (mode := .clean) tok HT mixed Try.func104 (by kernel_rfl) ⟨by kernel_rfl,by kernel_rfl⟩ (fun _=>aej (by kernel_rfl)) (fun x r h=>LR x.1 x.2 r h)
noncomputable def uh:=fU (jg (mX (eI .i64)) (fQ (mX (eI .i64)))) (fun x:(List Int)×(List Int)=>np x.1 x.2) (fun r:(List Int) =>.fresh 3 1 r.length (ae (eI .i64) r))
theorem nS (p0:(List Int)) (p1:(List Int)):uh none [.sl false false p0.length (ae (eI .i64) p0),.sl false false p1.length (ae (eI .i64) p1)]=(np p0 p1).map fun r:(List Int)=>(.fresh 3 1 r.length (ae (eI .i64) r),none):=aV _ _ _ (p0,p1)
noncomputable def uK:Env:=(Am.ext a6 102 true qy)
theorem Ox:bC Try.prog uK:=(bC.none.add D9 true)
theorem er:type_of% (ai @w<|@uK.eq_1):=⟨@w,@uK.eq_1⟩
theorem Tb (p0:(List Int)) (p1:(List Int)) (r:(List Int)) (hh:np p0 p1=some r):a7 (.fresh 3 1) tab uK FU Try.f103 none [.sl false false p0.length (ae (eI .i64) p0),.sl false false p1.length (ae (eI .i64) p1)]=some (.fresh 3 1 r.length (ae (eI .i64) r),none):=by
 refine aB rfl Try.ntmps103 Try.results103 ?_
 unfold np at hh
 obtain⟨x1,hx1,hh⟩:=ah hh
 obtain⟨q2a,q2b,q2c,q2d,q2e⟩:=mk_one (eI .i64) hx1
 simp only[bJ]at q2d
 try simp only[er,seval,-Int.reduceToNat,q2a,q2b,q2c,q2d,q2e]
 obtain⟨o20,ho20,hh⟩:=ah hh
 refine aA (fun s t H e=>match s with|(s20a,l5a)=>∃v5a:Nat,t 1=.sl false false p1.length (ae (eI .i64) p1)∧t 5=.buf 5 v5a 1 0 (l5a).length∧t 18=.sl false false p0.length (ae (eI .i64) p0)∧t 19=.int .i64 (p0.length:Int)∧t 20=.int .i64 s20a∧H 5=some ⟨v5a,3,ae (eI .i64) l5a,false,true,false⟩) (fun o x t H e=>match o with|l5ax=>x=.exit 0∧∃v5ax:Nat,t 5=.buf 5 v5ax 1 0 (l5ax).length∧H 5=some ⟨v5ax,3,ae (eI .i64) l5ax,false,true,false⟩) ho20 ?_ ?_ ?_
 ·refine⟨1,?_,?_,?_,?_,?_,?_⟩
  all_goals first|rfl|(simp only[er,seval,-Int.reduceToNat,q2a,q2b,q2c,q2d,q2e]<;>rfl)
 ·rintro⟨s20a,l5a⟩ t H e ⟨v5a,Za⟩ c hh
  simp only[qQ]at hh
  try simp only[er,seval,-Int.reduceToNat,q2a,q2b,q2c,q2d,q2e,Za]
  refine sp an hh (fun _ hh =>?_) (fun _ hh =>?_)
  ·obtain⟨x22,hx22,hh⟩:=ah hh
   have ax22:=bN (eI .i64) hx22
   simp only[bJ]at ax22
   try simp only[er,seval,-Int.reduceToNat,q2a,q2b,q2c,q2d,q2e,Za,ax22]
   obtain⟨o29,ho29,hh⟩:=ah hh
   refine aA (fun s t H e=>match s with|(s8c,s27c,l5c)=>∃v5c:Nat,t 1=.sl false false p1.length (ae (eI .i64) p1)∧t 5=.buf 5 v5c 1 0 (l5c).length∧t 6=.int .i64 s20a∧t 7=.int .i64 x22∧t 8=.int .i64 s8c∧t 18=.sl false false p0.length (ae (eI .i64) p0)∧t 19=.int .i64 (p0.length:Int)∧t 20=.int .i64 s20a∧t 25=.sl false false p1.length (ae (eI .i64) p1)∧t 26=.int .i64 (p1.length:Int)∧t 27=.int .i64 s27c∧H 5=some ⟨v5c,3,ae (eI .i64) l5c,false,true,false⟩) (fun o x t H e=>match o with|(s8cx,l5cx)=>x=.exit 2∧∃v5cx:Nat,t 1=.sl false false p1.length (ae (eI .i64) p1)∧t 5=.buf 5 v5cx 1 0 (l5cx).length∧t 6=.int .i64 s20a∧t 8=.int .i64 s8cx∧t 18=.sl false false p0.length (ae (eI .i64) p0)∧t 19=.int .i64 (p0.length:Int)∧t 20=.int .i64 s20a∧H 5=some ⟨v5cx,3,ae (eI .i64) l5cx,false,true,false⟩) ho29 ?_ ?_ ?_
   ·refine⟨v5a,?_,?_,?_,?_,?_,?_,?_,?_,?_,?_,?_,?_⟩
    all_goals first|rfl|(simp only[er,seval,-Int.reduceToNat,q2a,q2b,q2c,q2d,q2e,Za,ax22]<;>rfl)
   ·rintro⟨s8c,s27c,l5c⟩ t H e ⟨v5c,Zc⟩ c hh
    simp only[qS]at hh
    try simp only[er,seval,-Int.reduceToNat,q2a,q2b,q2c,q2d,q2e,ax22,Zc]
    refine sp an hh (fun _ hh =>?_) (fun _ hh =>?_)
    ·obtain⟨x31,hx31,hh⟩:=ah hh
     have ax31:=bN (eI .i64) hx31
     simp only[bJ]at ax31
     obtain⟨x32,hx32,hh⟩:=ah hh
     have ax32:=bN (eI .i64) hx32
     simp only[bJ]at ax32
     obtain⟨x33,hx33,hh⟩:=ah hh
     have q34:=sa hx33
     have ax32:=bN (eI .i64) hx32
     simp only[bJ]at ax32
     have p35:=eN (eI .i64) (x':=jK .and .i64 (IntKind.i64.wrap ((IntKind.i64.wrap (x32+(IntKind.i64.wrap (x22*x31))))+s8c)) 1048575) (fo:=0) (cs:=[.int .i64 (jK .and .i64 (IntKind.i64.wrap ((IntKind.i64.wrap (x32+(IntKind.i64.wrap (x22*x31))))+s8c)) 1048575)]) hx32 rfl (aej rfl)
     simp only[bJ,Nat.add_zero]at p35
     have up35:=p35
     simp only[putCells,List.length_cons,List.length_nil,adq,Nat.reduceAdd]at up35
     cases hh
     try simp only[er,seval,-Int.reduceToNat,q2a,q2b,q2c,q2d,q2e,ax22,Zc,ax31,ax32,q34,ax32,p35,up35]
     refine j5 ?_
     refine⟨v5c,?_,?_,?_,?_,?_,?_,?_,?_,?_,?_,?_,?_⟩
     all_goals first|rfl|(simp only[er,seval,-Int.reduceToNat,q2a,q2b,q2c,q2d,q2e,ax22,Zc,ax31,ax32,q34,ax32,p35,up35]<;>rfl)
    ·cases hh
     try simp only[er,seval,-Int.reduceToNat,q2a,q2b,q2c,q2d,q2e,ax22,Zc]
     refine ll ?_
     refine⟨rfl,⟨v5c,?_,?_,?_,?_,?_,?_,?_,?_⟩⟩
     all_goals first|rfl|(simp only[er,seval,-Int.reduceToNat,q2a,q2b,q2c,q2d,q2e,ax22,Zc]<;>rfl)
   ·rintro x t H e hx
    rcases o29 with⟨s8cx,l5cx⟩
    dsimp only at hx hh
    obtain⟨rfl,⟨v5cx,Zcx⟩⟩:=hx
    obtain⟨x36,hx36,hh⟩:=ah hh
    have ax36:=bN (eI .i64) hx36
    simp only[bJ]at ax36
    have ax36:=bN (eI .i64) hx36
    simp only[bJ]at ax36
    have p37:=eN (eI .i64) (x':=IntKind.i64.wrap (x36+s8cx)) (fo:=0) (cs:=[.int .i64 (IntKind.i64.wrap (x36+s8cx))]) hx36 rfl (aej rfl)
    simp only[bJ,Nat.add_zero]at p37
    have up37:=p37
    simp only[putCells,List.length_cons,List.length_nil,adq,Nat.reduceAdd]at up37
    cases hh
    try simp only[er,seval,-Int.reduceToNat,q2a,q2b,q2c,q2d,q2e,ax22,Zcx,ax36,ax36,p37,up37]
    refine j5 ?_
    refine⟨v5cx,?_,?_,?_,?_,?_,?_⟩
    all_goals first|rfl|(simp only[er,seval,-Int.reduceToNat,q2a,q2b,q2c,q2d,q2e,ax22,Zcx,ax36,ax36,p37,up37]<;>rfl)
  ·cases hh
   try simp only[er,seval,-Int.reduceToNat,q2a,q2b,q2c,q2d,q2e,Za]
   refine ll ?_
   refine⟨rfl,⟨v5a,?_,?_⟩⟩
   all_goals first|rfl|(simp only[er,seval,-Int.reduceToNat,q2a,q2b,q2c,q2d,q2e,Za]<;>rfl)
 ·rintro x t H e hx
  obtain⟨l5ax,rfl⟩:∃z,z=o20:=⟨_,rfl⟩
  dsimp only at hx hh
  obtain⟨rfl,⟨v5ax,Zax⟩⟩:=hx
  have i38:=IA [] [] l5ax
  try simp only[List.nil_append,aer,List.length_nil,aK,aeB,bJ]at i38
  obtain⟨r39,hr39,hh⟩:=ah hh
  cases hh
  try simp only[er,seval,-Int.reduceToNat,q2a,q2b,q2c,q2d,q2e,Zax,i38,hr39]
theorem CR:bW Try.prog 103 uh:=bW.of (mode:=(.fresh 3 1)) tok Ox mixed Try.func103 (by kernel_rfl) ⟨by kernel_rfl,by kernel_rfl⟩ (fun _=>aej (by kernel_rfl)) (fun x r h=>Tb x.1 x.2 r h)
noncomputable def nW:=Z0 3 (eI .i64) (jg (mX (eI .i64)) (fQ (aI .i64))) (fun (l:(List Int)) (x:(List Int)×Int)=>eZ l x.1 x.2) (fun r:Int =>.clean (.int .i64 r))
theorem C4 (pre post:List D) (p0:(List Int)) (p1:(List Int)) (p2:Int):nW (some (.buf 0 0 1 pre.length p0.length,⟨0,3,pre++(ae (eI .i64) p0++post),false,true,false⟩)) [.sl false false p1.length (ae (eI .i64) p1),.int .i64 p2]=(eZ p0 p1 p2).map fun r=>(.clean (.int .i64 r.2),some ⟨0,3,pre++(ae (eI .i64) r.1++post),false,true,false⟩):=Zy _ _ _ _ _ pre post p0 (p1,p2)
theorem Ct (pre post:List D) (p0:(List Int)) (p1:(List Int)) (p2:Int) (r:(List Int)×(Int)) (hh:eZ p0 p1 p2=some r):a7 .clean tab a6 FU Try.f105 (some (.buf 0 0 1 pre.length p0.length,⟨0,3,pre++(ae (eI .i64) p0++post),false,true,false⟩)) [.sl false false p1.length (ae (eI .i64) p1),.int .i64 p2]=some (.clean (.int .i64 r.2),some ⟨0,3,pre++(ae (eI .i64) r.1++post),false,true,false⟩):=by
 refine DG rfl Try.ntmps105 Try.results105 ?_
 unfold eZ at hh
 obtain⟨rw,hrw,hh⟩:=ah hh
 split at hh
 rotate_left
 ·cases hh
 cases hh
 rename_i hlen
 replace hh:=hrw
 unfold n9 at hh
 try simp only[w,seval,-Int.reduceToNat]
 obtain⟨o9,ho9,hh⟩:=ah hh
 refine aA (fun s t H e=>match s with|(s7a,s14a,l0a)=>t 0=.buf 0 0 1 pre.length (l0a).length∧t 1=.sl false false p1.length (ae (eI .i64) p1)∧t 2=.int .i64 p2∧t 7=.int .i64 s7a∧t 13=.int .i64 ((p0).length:Int)∧t 14=.int .i64 s14a∧H 0=some ⟨0,3,pre++(ae (eI .i64) l0a++post),false,true,false⟩) (fun o x t H e=>match o with|(s7ax,l0ax)=>x=.exit 0∧t 0=.buf 0 0 1 pre.length (l0ax).length∧t 1=.sl false false p1.length (ae (eI .i64) p1)∧t 2=.int .i64 p2∧t 7=.int .i64 s7ax∧H 0=some ⟨0,3,pre++(ae (eI .i64) l0ax++post),false,true,false⟩) ho9 ?_ ?_ ?_
 ·refine⟨?_,?_,?_,?_,?_,?_,?_⟩
  all_goals first|rfl|(simp only[w,seval,-Int.reduceToNat]<;>rfl)
 ·rintro⟨s7a,s14a,l0a⟩ t H e Za c hh
  simp only[jY]at hh
  try simp only[w,seval,-Int.reduceToNat,Za]
  refine sp an hh (fun _ hh =>?_) (fun _ hh =>?_)
  ·obtain⟨x11,hx11,hh⟩:=ah hh
   have ax11:=K8 (pre:=pre) (post:=post) (eI .i64) hx11
   simp only[bJ]at ax11
   try simp only[w,seval,-Int.reduceToNat,Za,ax11]
   obtain⟨o12,ho12,hh⟩:=ah hh
   refine jW 0 (fun s t H e=>match s with|s9j3=>t 0=.buf 0 0 1 pre.length (l0a).length∧t 1=.sl false false p1.length (ae (eI .i64) p1)∧t 2=.int .i64 p2∧t 8=.int .i64 s14a∧t 9=.int .i64 s9j3∧t 13=.int .i64 ((p0).length:Int)∧t 14=.int .i64 s14a∧H 0=some ⟨0,3,pre++(ae (eI .i64) l0a++post),false,true,false⟩) (fun s=>s=o12) ?_ ?_
   ·rintro s9j3 t H e Zj3 rfl
    try dsimp only at hh
    have ax11:=K8 (pre:=pre) (post:=post) (eI .i64) hx11
    simp only[bJ]at ax11
    have p13:=MN (pre:=pre) (post:=post) (eI .i64) (y':=jK .and .i64 s9j3 1048575) hx11
    simp only[bJ]at p13
    have up13:=p13
    simp only[putCells,List.length_cons,List.length_nil,adq,Nat.reduceAdd]at up13
    obtain⟨x14,hx14,hh⟩:=ah hh
    have q15:=sa hx14
    cases hh
    try simp only[w,seval,-Int.reduceToNat,ax11,Zj3,ax11,p13,up13,q15]
    refine j5 ?_
    refine⟨?_,?_,?_,?_,?_,?_,?_⟩
    all_goals first|rfl|(simp only[w,seval,-Int.reduceToNat,ax11,Zj3,ax11,p13,up13,q15]<;>rfl)
   ·clear hh
    have hh:=ho12
    try simp only[w,seval,-Int.reduceToNat,Za,ax11]
    refine sp an hh (fun _ hh =>?_) (fun _ hh =>?_)
    ·obtain⟨x17,hx17,hh⟩:=ah hh
     have ax17:=bN (eI .i64) hx17
     simp only[bJ]at ax17
     cases hh
     try simp only[w,seval,-Int.reduceToNat,Za,ax11,ax17]
     rw[au]
     refine⟨_,rfl,?_⟩
     refine⟨?_,?_,?_,?_,?_,?_,?_,?_⟩
     all_goals first|rfl|(simp only[w,seval,-Int.reduceToNat,Za,ax11,ax17]<;>rfl)
    ·cases hh
     try simp only[w,seval,-Int.reduceToNat,Za,ax11]
     rw[au]
     refine⟨_,rfl,?_⟩
     refine⟨?_,?_,?_,?_,?_,?_,?_,?_⟩
     all_goals first|rfl|(simp only[w,seval,-Int.reduceToNat,Za,ax11]<;>rfl)
  ·cases hh
   try simp only[w,seval,-Int.reduceToNat,Za]
   refine ll ?_
   refine⟨rfl,⟨?_,?_,?_,?_,?_⟩⟩
   all_goals first|rfl|(simp only[w,seval,-Int.reduceToNat,Za]<;>rfl)
 ·rintro x t H e hx
  rcases o9 with⟨s7ax,l0ax⟩
  dsimp only at hx hh
  obtain⟨rfl,Zax⟩:=hx
  try simp only[w,seval,-Int.reduceToNat,Zax]
  refine sp an hh (fun _ hh =>?_) (fun _ hh =>?_)
  ·cases hh
   try simp only[w,seval,-Int.reduceToNat,Zax]
  ·try simp only[w,seval,-Int.reduceToNat,Zax]
   obtain⟨o27,ho27,hh⟩:=ah hh
   refine aA (fun s t H e=>match s with|(s10d,s49d,l0d)=>t 0=.buf 0 0 1 pre.length (l0d).length∧t 1=.sl false false p1.length (ae (eI .i64) p1)∧t 2=.int .i64 p2∧t 10=.int .i64 s10d∧t 48=.int .i64 ((l0ax).length:Int)∧t 49=.int .i64 s49d∧H 0=some ⟨0,3,pre++(ae (eI .i64) l0d++post),false,true,false⟩) (fun o x t H e=>match o with|l0dx=>x=.exit 2∧t 0=.buf 0 0 1 pre.length (l0dx).length∧t 2=.int .i64 p2∧H 0=some ⟨0,3,pre++(ae (eI .i64) l0dx++post),false,true,false⟩) ho27 ?_ ?_ ?_
   ·refine⟨?_,?_,?_,?_,?_,?_,?_⟩
    all_goals first|rfl|(simp only[w,seval,-Int.reduceToNat,Zax]<;>rfl)
   ·rintro⟨s10d,s49d,l0d⟩ t H e Zd c hh
    simp only[jZ]at hh
    try simp only[w,seval,-Int.reduceToNat,Zd]
    refine sp an hh (fun _ hh =>?_) (fun _ hh =>?_)
    ·obtain⟨x29,hx29,hh⟩:=ah hh
     have ax29:=K8 (pre:=pre) (post:=post) (eI .i64) hx29
     simp only[bJ]at ax29
     try simp only[w,seval,-Int.reduceToNat,Zd,ax29]
     obtain⟨o30,ho30,hh⟩:=ah hh
     refine jW 0 (fun s t H e=>match s with|s10j6=>t 0=.buf 0 0 1 pre.length (l0d).length∧t 1=.sl false false p1.length (ae (eI .i64) p1)∧t 2=.int .i64 p2∧t 10=.int .i64 s10j6∧t 11=.int .i64 s49d∧t 48=.int .i64 ((l0ax).length:Int)∧t 49=.int .i64 s49d∧H 0=some ⟨0,3,pre++(ae (eI .i64) l0d++post),false,true,false⟩) (fun s=>s=o30) ?_ ?_
     ·rintro s10j6 t H e Zj6 rfl
      try dsimp only at hh
      have ax29:=K8 (pre:=pre) (post:=post) (eI .i64) hx29
      simp only[bJ]at ax29
      have p31:=MN (pre:=pre) (post:=post) (eI .i64) (y':=jK .and .i64 s10j6 1048575) hx29
      simp only[bJ]at p31
      have up31:=p31
      simp only[putCells,List.length_cons,List.length_nil,adq,Nat.reduceAdd]at up31
      obtain⟨x32,hx32,hh⟩:=ah hh
      have q33:=sa hx32
      cases hh
      try simp only[w,seval,-Int.reduceToNat,ax29,Zj6,ax29,p31,up31,q33]
      refine j5 ?_
      refine⟨?_,?_,?_,?_,?_,?_,?_⟩
      all_goals first|rfl|(simp only[w,seval,-Int.reduceToNat,ax29,Zj6,ax29,p31,up31,q33]<;>rfl)
     ·clear hh
      have hh:=ho30
      try simp only[w,seval,-Int.reduceToNat,Zd,ax29]
      refine sp an hh (fun _ hh =>?_) (fun _ hh =>?_)
      ·obtain⟨x35,hx35,hh⟩:=ah hh
       have ax35:=bN (eI .i64) hx35
       simp only[bJ]at ax35
       cases hh
       try simp only[w,seval,-Int.reduceToNat,Zd,ax29,ax35]
       rw[au]
       refine⟨_,rfl,?_⟩
       refine⟨?_,?_,?_,?_,?_,?_,?_,?_⟩
       all_goals first|rfl|(simp only[w,seval,-Int.reduceToNat,Zd,ax29,ax35]<;>rfl)
      ·cases hh
       try simp only[w,seval,-Int.reduceToNat,Zd,ax29]
       rw[au]
       refine⟨_,rfl,?_⟩
       refine⟨?_,?_,?_,?_,?_,?_,?_,?_⟩
       all_goals first|rfl|(simp only[w,seval,-Int.reduceToNat,Zd,ax29]<;>rfl)
    ·cases hh
     try simp only[w,seval,-Int.reduceToNat,Zd]
     refine ll ?_
     refine⟨rfl,⟨?_,?_,?_⟩⟩
     all_goals first|rfl|(simp only[w,seval,-Int.reduceToNat,Zd]<;>rfl)
   ·rintro x t H e hx
    obtain⟨l0dx,rfl⟩:∃z,z=o27:=⟨_,rfl⟩
    dsimp only at hx hh
    obtain⟨rfl,Zdx⟩:=hx
    cases hh
    try simp only[w,seval,-Int.reduceToNat,Zdx]
theorem Ak:bW Try.prog 105 nW:=bW.aaq (mode := .clean) tok bC.none mixed Try.func105 (by kernel_rfl) ⟨by kernel_rfl,by kernel_rfl⟩ (fun _=>aej (by kernel_rfl)) (fun pre post l x l' r h=>Ct pre post l x.1 x.2 (l',r) h)
noncomputable def ug:=fU (jg (mX (eI .i64)) (fQ (mX (eI .i64)))) (fun x:(List Int)×(List Int)=>oW x.1 x.2) (fun r:(List Int)×(List Int) =>.clean (.tup [.sl false false r.1.length (ae (eI .i64) r.1),.sl false false r.2.length (ae (eI .i64) r.2)]))
theorem uZ (p0:(List Int)) (p1:(List Int)):ug none [.sl false false p0.length (ae (eI .i64) p0),.sl false false p1.length (ae (eI .i64) p1)]=(oW p0 p1).map fun r:(List Int)×(List Int)=>(.clean (.tup [.sl false false r.1.length (ae (eI .i64) r.1),.sl false false r.2.length (ae (eI .i64) r.2)]),none):=aV _ _ _ (p0,p1)
noncomputable def uJ:Env:=(Am.ext (Am.ext (Am.ext (Am.ext (Am.ext (Am.ext a6 78 false jI) 82 false gH) 102 false j9) 103 false uh) 104 false sO) 105 true nW)
theorem Ow:bC Try.prog uJ:=((((((bC.none.add oH false).add j6 false).add mP false).add CR false).add Ir false).add Ak true)
theorem aU:type_of% (ai @w<|ai @iC<|ai @eG<|ai @eV<|ai @nS<|ai @zK<|@uJ.eq_1):=⟨@w,@iC,@eG,@eV,@nS,@zK,@uJ.eq_1⟩
theorem Ta (p0:(List Int)) (p1:(List Int)) (r:(List Int)×(List Int)) (hh:oW p0 p1=some r):a7 .clean tab uJ FU Try.f83 none [.sl false false p0.length (ae (eI .i64) p0),.sl false false p1.length (ae (eI .i64) p1)]=some (.clean (.tup [.sl false false r.1.length (ae (eI .i64) r.1),.sl false false r.2.length (ae (eI .i64) r.2)]),none):=by
 refine aB rfl Try.ntmps83 Try.results83 ?_
 unfold oW at hh
 obtain⟨r1,hr1,hh⟩:=ah hh
 try simp only[aU,seval,-Int.reduceToNat,hr1]
 refine sp an hh (fun _ hh =>?_) (fun _ hh =>?_)
 ·obtain⟨r3,hr3,hh⟩:=ah hh
  cases hh
  try simp only[aU,seval,-Int.reduceToNat,hr1,hr3]
 ·try simp only[aU,seval,-Int.reduceToNat,hr1]
  refine sp an hh (fun _ hh =>?_) (fun _ hh =>?_)
  ·obtain⟨x5,hx5,hh⟩:=ah hh
   have ax5:=bN (eI .i64) hx5
   simp only[bJ]at ax5
   obtain⟨r6,hr6,hh⟩:=ah hh
   have i7:=eV ([r6.2])
   simp only[aK,bJ,List.length_cons,List.length_nil,adq,Nat.reduceAdd,aeB]at i7
   obtain⟨r8,hr8,hh⟩:=ah hh
   cases hh
   try simp only[aU,seval,-Int.reduceToNat,hr1,ax5,hr6,i7,hr8]
  ·try simp only[aU,seval,-Int.reduceToNat,hr1]
   obtain⟨o11,ho11,hh⟩:=ah hh
   refine aA (fun s t H e=>match s with|s8a=>t 0=.sl false false p0.length (ae (eI .i64) p0)∧t 1=.sl false false p1.length (ae (eI .i64) p1)∧t 8=.int .i64 s8a) (fun o x t H e=>match o with|s8ax=>x=.exit 0∧t 0=.sl false false p0.length (ae (eI .i64) p0)∧t 1=.sl false false p1.length (ae (eI .i64) p1)∧t 8=.int .i64 s8ax) ho11 ?_ ?_ ?_
   ·refine⟨?_,?_,?_⟩
    all_goals first|rfl|(simp only[aU,seval,-Int.reduceToNat,hr1]<;>rfl)
   ·rintro s8a t H e Za c hh
    simp only[qN]at hh
    obtain⟨x12,hx12,hh⟩:=ah hh
    have ax12:=bN (eI .i64) hx12
    simp only[bJ]at ax12
    try simp only[aU,seval,-Int.reduceToNat,hr1,Za,ax12]
    refine sp an hh (fun _ hh =>?_) (fun _ hh =>?_)
    ·cases hh
     try simp only[aU,seval,-Int.reduceToNat,hr1,Za,ax12]
     refine j5 ?_
     refine⟨?_,?_,?_⟩
     all_goals first|rfl|(simp only[aU,seval,-Int.reduceToNat,hr1,Za,ax12]<;>rfl)
    ·cases hh
     try simp only[aU,seval,-Int.reduceToNat,hr1,Za,ax12]
     refine ll ?_
     refine⟨rfl,⟨?_,?_,?_⟩⟩
     all_goals first|rfl|(simp only[aU,seval,-Int.reduceToNat,hr1,Za,ax12]<;>rfl)
   ·rintro x t H e hx
    obtain⟨s8ax,rfl⟩:∃z,z=o11:=⟨_,rfl⟩
    dsimp only at hx hh
    obtain⟨rfl,Zax⟩:=hx
    have i14:=nS p0 ([s8ax])
    simp only[aK,bJ,List.length_cons,List.length_nil,adq,Nat.reduceAdd,aeB]at i14
    obtain⟨r15,hr15,hh⟩:=ah hh
    obtain⟨x16,hx16,hh⟩:=ah hh
    obtain⟨q17a,q17b,q17c,q17d⟩:=iK (eI .i64) hx16
    simp only[bJ]at q17b
    have i18:=nS p1 ([s8ax])
    simp only[aK,bJ,List.length_cons,List.length_nil,adq,Nat.reduceAdd,aeB]at i18
    obtain⟨r19,hr19,hh⟩:=ah hh
    try simp only[aU,seval,-Int.reduceToNat,hr1,Zax,i14,hr15,q17a,q17b,q17c,q17d,i18,hr19]
    obtain⟨o20,ho20,hh⟩:=ah hh
    refine jW 0 (fun s t H e=>match s with|l9j2=>∃v9j2:Nat,∃v10j2:Nat,t 8=.int .i64 s8ax∧t 9=.buf 9 v9j2 1 0 (l9j2).length∧t 10=.buf 10 v10j2 1 0 (r19).length∧H 9=some ⟨v9j2,3,ae (eI .i64) l9j2,false,true,false⟩∧H 10=some ⟨v10j2,3,ae (eI .i64) r19,false,true,false⟩) (fun s=>s=o20) ?_ ?_
    ·rintro l9j2 t H e ⟨v9j2,v10j2,Zj2⟩ rfl
     try dsimp only at hh
     obtain⟨x21,hx21,hh⟩:=ah hh
     obtain⟨q22a,q22b,q22c,q22d,q22e⟩:=mk_one (eI .i64) hx21
     simp only[bJ]at q22d
     try simp only[aU,seval,-Int.reduceToNat,hr1,i14,hr15,q17a,q17b,q17c,q17d,i18,hr19,Zj2,q22a,q22b,q22c,q22d,q22e]
     obtain⟨o58,ho58,hh⟩:=ah hh
     refine aA (fun s t H e=>match s with|(s13c,l9c,l12c)=>∃v9c:Nat,∃v10c:Nat,∃v12c:Nat,∃z10c:Bool,t 8=.int .i64 s8ax∧t 9=.buf 9 v9c 1 0 (l9c).length∧t 10=.buf 10 v10c 1 0 (r19).length∧t 11=.int .i64 ((r19).length:Int)∧t 12=.buf 12 v12c 1 0 (l12c).length∧t 13=.int .i64 s13c∧H 9=some ⟨v9c,3,ae (eI .i64) l9c,false,true,false⟩∧H 10=some ⟨v10c,3,ae (eI .i64) r19,z10c,true,false⟩∧H 12=some ⟨v12c,3,ae (eI .i64) l12c,false,true,false⟩) (fun o x t H e=>match o with|(l9cx,l12cx)=>x=.exit 2∧∃v9cx:Nat,∃v12cx:Nat,t 8=.int .i64 s8ax∧t 9=.buf 9 v9cx 1 0 (l9cx).length∧t 12=.buf 12 v12cx 1 0 (l12cx).length∧H 9=some ⟨v9cx,3,ae (eI .i64) l9cx,false,true,false⟩∧H 12=some ⟨v12cx,3,ae (eI .i64) l12cx,false,true,false⟩) ho58 ?_ ?_ ?_
     ·refine⟨v9j2,v10j2,e+1,false,?_,?_,?_,?_,?_,?_,?_,?_,?_⟩
      all_goals first|rfl|(simp only[aU,seval,-Int.reduceToNat,hr1,i14,hr15,q17a,q17b,q17c,q17d,i18,hr19,Zj2,q22a,q22b,q22c,q22d,q22e]<;>rfl)
     ·rintro⟨s13c,l9c,l12c⟩ t H e ⟨v9c,v10c,v12c,z10c,Zc⟩ c hh
      simp only[qO]at hh
      try simp only[aU,seval,-Int.reduceToNat,hr1,i14,hr15,q17a,q17b,q17c,q17d,i18,hr19,q22a,q22b,q22c,q22d,q22e,Zc]
      refine sp an hh (fun _ hh =>?_) (fun _ hh =>?_)
      ·obtain⟨x60,hx60,hh⟩:=ah hh
       have ax60:=bN (eI .i64) hx60
       simp only[bJ]at ax60
       obtain⟨x61,hx61,hh⟩:=ah hh
       have q62:=AF hx61
       obtain⟨x63,hx63,hh⟩:=ah hh
       have ax63:=bN (eI .i64) hx63
       simp only[bJ]at ax63
       try simp only[aU,seval,-Int.reduceToNat,hr1,i14,hr15,q17a,q17b,q17c,q17d,i18,hr19,q22a,q22b,q22c,q22d,q22e,Zc,ax60,q62,ax63]
       refine bo (by kernel_rfl) ?_
       obtain⟨x64,hx64,hh⟩:=ah hh
       have ax64:=bN (eI .i64) hx64
       simp only[bJ]at ax64
       obtain⟨x65,hx65,hh⟩:=ah hh
       have q66:=qW hx65
       have ax64:=bN (eI .i64) hx64
       simp only[bJ]at ax64
       obtain⟨x67,hx67,hh⟩:=ah hh
       have q68:=xw hx67
       try simp only[aU,seval,-Int.reduceToNat,hr1,i14,hr15,q17a,q17b,q17c,q17d,i18,hr19,q22a,q22b,q22c,q22d,q22e,Zc,ax60,q62,ax63,ax64,q66,ax64,q68]
       refine bo (by kernel_rfl) ?_
       try simp only[aU,seval,-Int.reduceToNat,hr1,i14,hr15,q17a,q17b,q17c,q17d,i18,hr19,q22a,q22b,q22c,q22d,q22e,Zc,ax60,q62,ax63,ax64,q66,ax64,q68]
       obtain⟨o78,ho78,hh⟩:=ah hh
       refine aA (fun s t H e=>match s with|(s15g,s16g)=>∃v9g:Nat,∃v10g:Nat,∃v12g:Nat,∃z10g:Bool,t 8=.int .i64 s8ax∧t 9=.buf 9 v9g 1 0 (l9c).length∧t 10=.buf 10 v10g 1 0 (r19).length∧t 11=.int .i64 ((r19).length:Int)∧t 12=.buf 12 v12g 1 0 (l12c).length∧t 13=.int .i64 s13c∧t 15=.int .i64 s15g∧t 16=.int .i64 s16g∧H 9=some ⟨v9g,3,ae (eI .i64) l9c,false,true,false⟩∧H 10=some ⟨v10g,3,ae (eI .i64) r19,z10g,true,false⟩∧H 12=some ⟨v12g,3,ae (eI .i64) l12c,false,true,false⟩) (fun o x t H e=>match o with|s15gx=>x=.exit 4∧∃v9gx:Nat,∃v10gx:Nat,∃v12gx:Nat,∃z10gx:Bool,t 8=.int .i64 s8ax∧t 9=.buf 9 v9gx 1 0 (l9c).length∧t 10=.buf 10 v10gx 1 0 (r19).length∧t 11=.int .i64 ((r19).length:Int)∧t 12=.buf 12 v12gx 1 0 (l12c).length∧t 13=.int .i64 s13c∧t 15=.int .i64 s15gx∧H 9=some ⟨v9gx,3,ae (eI .i64) l9c,false,true,false⟩∧H 10=some ⟨v10gx,3,ae (eI .i64) r19,z10gx,true,false⟩∧H 12=some ⟨v12gx,3,ae (eI .i64) l12c,false,true,false⟩) ho78 ?_ ?_ ?_
       ·refine⟨v9c,v10c,v12c,z10c,?_,?_,?_,?_,?_,?_,?_,?_,?_,?_,?_⟩
        all_goals first|rfl|(simp only[aU,seval,-Int.reduceToNat,hr1,i14,hr15,q17a,q17b,q17c,q17d,i18,hr19,q22a,q22b,q22c,q22d,q22e,Zc,ax60,q62,ax63,ax64,q66,ax64,q68]<;>rfl)
       ·rintro⟨s15g,s16g⟩ t H e ⟨v9g,v10g,v12g,z10g,Zg⟩ c hh
        simp only[qP]at hh
        try simp only[aU,seval,-Int.reduceToNat,hr1,i14,hr15,q17a,q17b,q17c,q17d,i18,hr19,q22a,q22b,q22c,q22d,q22e,ax60,q62,ax63,ax64,q66,ax64,q68,Zg]
        obtain⟨o79,ho79,hh⟩:=ah hh
        refine WO 0 (fun s t H e=>match s with|s137j9=>∃v9j9:Nat,∃v10j9:Nat,∃v12j9:Nat,∃z10j9:Bool,t 8=.int .i64 s8ax∧t 9=.buf 9 v9j9 1 0 (l9c).length∧t 10=.buf 10 v10j9 1 0 (r19).length∧t 11=.int .i64 ((r19).length:Int)∧t 12=.buf 12 v12j9 1 0 (l12c).length∧t 13=.int .i64 s13c∧t 15=.int .i64 s15g∧t 16=.int .i64 s16g∧t 137=.bool s137j9∧H 9=some ⟨v9j9,3,ae (eI .i64) l9c,false,true,false⟩∧H 10=some ⟨v10j9,3,ae (eI .i64) r19,z10j9,true,false⟩∧H 12=some ⟨v12j9,3,ae (eI .i64) l12c,false,true,false⟩) (fun s=>s=o79) ?_ ?_
        ·rintro s137j9 t H e ⟨v9j9,v10j9,v12j9,z10j9,Zj9⟩ rfl
         try dsimp only at hh
         try simp only[aU,seval,-Int.reduceToNat,hr1,i14,hr15,q17a,q17b,q17c,q17d,i18,hr19,q22a,q22b,q22c,q22d,q22e,ax60,q62,ax63,ax64,q66,ax64,q68,Zj9]
         refine sp an hh (fun _ hh =>?_) (fun _ hh =>?_)
         ·have ax64:=bN (eI .i64) hx64
          simp only[bJ]at ax64
          cases hh
          try simp only[aU,seval,-Int.reduceToNat,hr1,i14,hr15,q17a,q17b,q17c,q17d,i18,hr19,q22a,q22b,q22c,q22d,q22e,ax60,q62,ax63,ax64,q66,ax64,q68,Zj9,ax64]
          refine j5 ?_
          refine⟨v9j9,v10j9,v12j9,z10j9,?_,?_,?_,?_,?_,?_,?_,?_,?_,?_,?_⟩
          all_goals first|rfl|(simp only[aU,seval,-Int.reduceToNat,hr1,i14,hr15,q17a,q17b,q17c,q17d,i18,hr19,q22a,q22b,q22c,q22d,q22e,ax60,q62,ax63,ax64,q66,ax64,q68,Zj9,ax64]<;>rfl)
         ·cases hh
          try simp only[aU,seval,-Int.reduceToNat,hr1,i14,hr15,q17a,q17b,q17c,q17d,i18,hr19,q22a,q22b,q22c,q22d,q22e,ax60,q62,ax63,ax64,q66,ax64,q68,Zj9]
          refine ll ?_
          refine⟨rfl,⟨v9j9,v10j9,v12j9,z10j9,?_,?_,?_,?_,?_,?_,?_,?_,?_,?_⟩⟩
          all_goals first|rfl|(simp only[aU,seval,-Int.reduceToNat,hr1,i14,hr15,q17a,q17b,q17c,q17d,i18,hr19,q22a,q22b,q22c,q22d,q22e,ax60,q62,ax63,ax64,q66,ax64,q68,Zj9]<;>rfl)
        ·clear hh
         have hh:=ho79
         try simp only[aU,seval,-Int.reduceToNat,hr1,i14,hr15,q17a,q17b,q17c,q17d,i18,hr19,q22a,q22b,q22c,q22d,q22e,ax60,q62,ax63,ax64,q66,ax64,q68,Zg]
         refine sp WN hh (fun _ hh =>?_) (fun _ hh =>?_)
         ·try simp only[aU,seval,-Int.reduceToNat,hr1,i14,hr15,q17a,q17b,q17c,q17d,i18,hr19,q22a,q22b,q22c,q22d,q22e,ax60,q62,ax63,ax64,q66,ax64,q68,Zg]
          refine bo (by kernel_rfl) ?_
          cases hh
          try simp only[aU,seval,-Int.reduceToNat,hr1,i14,hr15,q17a,q17b,q17c,q17d,i18,hr19,q22a,q22b,q22c,q22d,q22e,ax60,q62,ax63,ax64,q66,ax64,q68,Zg]
          rw[au]
          refine⟨_,rfl,?_⟩
          refine⟨v9g,v10g,v12g,z10g,?_,?_,?_,?_,?_,?_,?_,?_,?_,?_,?_,?_⟩
          all_goals first|rfl|(simp only[aU,seval,-Int.reduceToNat,hr1,i14,hr15,q17a,q17b,q17c,q17d,i18,hr19,q22a,q22b,q22c,q22d,q22e,ax60,q62,ax63,ax64,q66,ax64,q68,Zg]<;>rfl)
         ·try simp only[aU,seval,-Int.reduceToNat,hr1,i14,hr15,q17a,q17b,q17c,q17d,i18,hr19,q22a,q22b,q22c,q22d,q22e,ax60,q62,ax63,ax64,q66,ax64,q68,Zg]
          refine sp sd hh (fun _ hh =>?_) (fun _ hh =>?_)
          ·obtain⟨x83,hx83,hh⟩:=ah hh
           have ax83:=bN (eI .i64) hx83
           simp only[bJ]at ax83
           obtain⟨x84,hx84,hh⟩:=ah hh
           have q85:=AF hx84
           obtain⟨x86,hx86,hh⟩:=ah hh
           have ax86:=bN (eI .i64) hx86
           simp only[bJ]at ax86
           try simp only[aU,seval,-Int.reduceToNat,hr1,i14,hr15,q17a,q17b,q17c,q17d,i18,hr19,q22a,q22b,q22c,q22d,q22e,ax60,q62,ax63,ax64,q66,ax64,q68,Zg,ax83,q85,ax86]
           refine bo (by kernel_rfl) ?_
           cases hh
           try simp only[aU,seval,-Int.reduceToNat,hr1,i14,hr15,q17a,q17b,q17c,q17d,i18,hr19,q22a,q22b,q22c,q22d,q22e,ax60,q62,ax63,ax64,q66,ax64,q68,Zg,ax83,q85,ax86]
           rw[au]
           refine⟨_,rfl,?_⟩
           refine⟨v9g,v10g,v12g,z10g,?_,?_,?_,?_,?_,?_,?_,?_,?_,?_,?_,?_⟩
           all_goals first|rfl|(simp only[aU,seval,-Int.reduceToNat,hr1,i14,hr15,q17a,q17b,q17c,q17d,i18,hr19,q22a,q22b,q22c,q22d,q22e,ax60,q62,ax63,ax64,q66,ax64,q68,Zg,ax83,q85,ax86]<;>rfl)
          ·try simp only[aU,seval,-Int.reduceToNat,hr1,i14,hr15,q17a,q17b,q17c,q17d,i18,hr19,q22a,q22b,q22c,q22d,q22e,ax60,q62,ax63,ax64,q66,ax64,q68,Zg]
           refine bo (by kernel_rfl) ?_
           cases hh
           try simp only[aU,seval,-Int.reduceToNat,hr1,i14,hr15,q17a,q17b,q17c,q17d,i18,hr19,q22a,q22b,q22c,q22d,q22e,ax60,q62,ax63,ax64,q66,ax64,q68,Zg]
           rw[au]
           refine⟨_,rfl,?_⟩
           refine⟨v9g,v10g,v12g,z10g,?_,?_,?_,?_,?_,?_,?_,?_,?_,?_,?_,?_⟩
           all_goals first|rfl|(simp only[aU,seval,-Int.reduceToNat,hr1,i14,hr15,q17a,q17b,q17c,q17d,i18,hr19,q22a,q22b,q22c,q22d,q22e,ax60,q62,ax63,ax64,q66,ax64,q68,Zg]<;>rfl)
       ·rintro x t H e hx
        obtain⟨s15gx,rfl⟩:∃z,z=o78:=⟨_,rfl⟩
        dsimp only at hx hh
        obtain⟨rfl,⟨v9gx,v10gx,v12gx,z10gx,Zgx⟩⟩:=hx
        obtain⟨x87,hx87,hh⟩:=ah hh
        obtain⟨q88a,q88b,q88c,q88d,q88e⟩:=ZN (eI .i64) hx87
        simp only[bJ]at q88e
        have i89:=C4 (ae (eI .i64) (l9c.take (s13c).toNat)) (ae (eI .i64) (l9c.drop (IntKind.i64.wrap ((IntKind.i64.wrap (s13c+((r19).length:Int)))+1)).toNat)) x87 r19 s15gx
        simp only[X2,X3 (eI .i64) hx87,X4 (eI .i64) hx87,YY hx87,bJ,Int.toNat_zero,aep,Nat.sub_zero]at i89
        obtain⟨r90,hr90,hh⟩:=ah hh
        have q91l:=yy hr90
        have q91m:=WU hx87 q91l
        obtain⟨x92,hx92,hh⟩:=ah hh
        have ax92:=bN (eI .i64) hx92
        simp only[bJ]at ax92
        have p93:=eN (eI .i64) (x':=r90.2) (fo:=0) (cs:=[.int .i64 r90.2]) hx92 rfl (aej rfl)
        simp only[bJ,Nat.add_zero]at p93
        have up93:=p93
        simp only[putCells,List.length_cons,List.length_nil,adq,Nat.reduceAdd]at up93
        cases hh
        try simp only[aU,seval,-Int.reduceToNat,hr1,i14,hr15,q17a,q17b,q17c,q17d,i18,hr19,q22a,q22b,q22c,q22d,q22e,ax60,q62,ax63,ax64,q66,ax64,q68,Zgx,q88a,q88b,q88c,q88e,i89,hr90,q91m,ax92,p93,up93]
        refine j5 ?_
        refine⟨v9gx,v10gx,v12gx,true,?_,?_,?_,?_,?_,?_,?_,?_,?_⟩
        all_goals first|rfl|(simp only[aU,seval,-Int.reduceToNat,hr1,i14,hr15,q17a,q17b,q17c,q17d,i18,hr19,q22a,q22b,q22c,q22d,q22e,ax60,q62,ax63,ax64,q66,ax64,q68,Zgx,q88a,q88b,q88c,q88e,i89,hr90,q91m,ax92,p93,up93]<;>rfl)
      ·cases hh
       try simp only[aU,seval,-Int.reduceToNat,hr1,i14,hr15,q17a,q17b,q17c,q17d,i18,hr19,q22a,q22b,q22c,q22d,q22e,Zc]
       refine ll ?_
       refine⟨rfl,⟨v9c,v12c,?_,?_,?_,?_,?_⟩⟩
       all_goals first|rfl|(simp only[aU,seval,-Int.reduceToNat,hr1,i14,hr15,q17a,q17b,q17c,q17d,i18,hr19,q22a,q22b,q22c,q22d,q22e,Zc]<;>rfl)
     ·rintro x t H e hx
      rcases o58 with⟨l9cx,l12cx⟩
      dsimp only at hx hh
      obtain⟨rfl,⟨v9cx,v12cx,Zcx⟩⟩:=hx
      obtain⟨r94,hr94,hh⟩:=ah hh
      obtain⟨r95,hr95,hh⟩:=ah hh
      obtain⟨r96,hr96,hh⟩:=ah hh
      cases hh
      try simp only[aU,seval,-Int.reduceToNat,hr1,i14,hr15,q17a,q17b,q17c,q17d,i18,hr19,q22a,q22b,q22c,q22d,q22e,Zcx,hr94,hr95,hr96]
    ·clear hh
     have hh:=ho20
     try simp only[aU,seval,-Int.reduceToNat,hr1,Zax,i14,hr15,q17a,q17b,q17c,q17d,i18,hr19]
     refine sp an hh (fun _ hh =>?_) (fun _ hh =>?_)
     ·obtain⟨x98,hx98,hh⟩:=ah hh
      obtain⟨q99a,q99b,q99c,q99d⟩:=iK (eI .i64) hx98
      simp only[bJ]at q99b
      cases hh
      try simp only[aU,seval,-Int.reduceToNat,hr1,Zax,i14,hr15,q17a,q17b,q17c,q17d,i18,hr19,q99a,q99b,q99c,q99d]
      rw[au]
      refine⟨_,rfl,?_⟩
      refine⟨e+1+1,e,?_,?_,?_,?_,?_⟩
      all_goals first|rfl|(simp only[aU,seval,-Int.reduceToNat,hr1,Zax,i14,hr15,q17a,q17b,q17c,q17d,i18,hr19,q99a,q99b,q99c,q99d]<;>rfl)
     ·cases hh
      try simp only[aU,seval,-Int.reduceToNat,hr1,Zax,i14,hr15,q17a,q17b,q17c,q17d,i18,hr19]
      rw[au]
      refine⟨_,rfl,?_⟩
      refine⟨e,e,?_,?_,?_,?_,?_⟩
      all_goals first|rfl|(simp only[aU,seval,-Int.reduceToNat,hr1,Zax,i14,hr15,q17a,q17b,q17c,q17d,i18,hr19]<;>rfl)
theorem CQ:bW Try.prog 83 ug:=bW.of (mode := .clean) tok Ow mixed Try.func83 (by kernel_rfl) ⟨by kernel_rfl,by kernel_rfl⟩ (fun _=>aej (by kernel_rfl)) (fun x r h=>Ta x.1 x.2 r h)
noncomputable def fX:=fU (jg (aI .i64) (fQ (mX (eI .i64)))) (fun x:Int×(List Int)=>cp x.1 x.2) (fun r:al =>.clean (.agg [.int .i64 r.ag,.sl false false r.aa.length (ae (eI .i64) r.aa)]))
theorem dy (p0:Int) (p1:(List Int)):fX none [.int .i64 p0,.sl false false p1.length (ae (eI .i64) p1)]=(cp p0 p1).map fun r:al=>(.clean (.agg [.int .i64 r.ag,.sl false false r.aa.length (ae (eI .i64) r.aa)]),none):=aV _ _ _ (p0,p1)
noncomputable def nw:Env:=(Am.ext a6 102 false j9)
theorem DT:bC Try.prog nw:=(bC.none.add mP false)
theorem sh:type_of% (ai @w<|ai @eV<|@nw.eq_1):=⟨@w,@eV,@nw.eq_1⟩
theorem H8 (p0:Int) (p1:(List Int)) (r:al) (hh:cp p0 p1=some r):a7 .clean tab nw FU Try.f76 none [.int .i64 p0,.sl false false p1.length (ae (eI .i64) p1)]=some (.clean (.agg [.int .i64 r.ag,.sl false false r.aa.length (ae (eI .i64) r.aa)]),none):=by
 refine aB rfl Try.ntmps76 Try.results76 ?_
 unfold cp at hh
 obtain⟨r1,hr1,hh⟩:=ah hh
 try simp only[sh,seval,hr1]
 refine sp an hh (fun _ hh =>?_) (fun _ hh =>?_)
 ·cases hh
  try simp only[sh,seval,hr1]
 ·cases hh
  try simp only[sh,seval,hr1]
theorem iB:bW Try.prog 76 fX:=bW.of (mode := .clean) tok DT mixed Try.func76 (by kernel_rfl) ⟨by kernel_rfl,by kernel_rfl⟩ (fun _=>aej (by kernel_rfl)) (fun x r h=>H8 x.1 x.2 r h)
noncomputable def ud:=fU (jg (de eL) (fQ (de eL))) (fun x:al×al=>nk x.1 x.2) (fun r:al×Int =>.clean (.tup [.agg [.int .i64 r.1.ag,.sl false false r.1.aa.length (ae (eI .i64) r.1.aa)],.int .i64 r.2]))
theorem uX (p0_0:Int) (p0_1:(List Int)) (p1_0:Int) (p1_1:(List Int)):ud none [.agg [.int .i64 p0_0,.sl false false p0_1.length (ae (eI .i64) p0_1)],.agg [.int .i64 p1_0,.sl false false p1_1.length (ae (eI .i64) p1_1)]]=(nk (al.mk p0_0 p0_1) (al.mk p1_0 p1_1)).map fun r:al×Int=>(.clean (.tup [.agg [.int .i64 r.1.ag,.sl false false r.1.aa.length (ae (eI .i64) r.1.aa)],.int .i64 r.2]),none):=aV _ _ _ ((al.mk p0_0 p0_1),(al.mk p1_0 p1_1))
noncomputable def uE:Env:=(Am.keep 6 (Am.ext (Am.ext (Am.ext (Am.ext (Am.ext a6 50 false eC) 75 false jH) 76 false fX) 82 false gH) 83 false ug))
theorem Oo:bC Try.prog uE:=(bC.keep (((((bC.none.add fe false).add oG false).add iB false).add j6 false).add CQ false) 6)
theorem dL:type_of% (ai @w<|ai @cj<|ai @ez<|ai @dy<|ai @eG<|ai @uZ<|@uE.eq_1):=⟨@w,@cj,@ez,@dy,@eG,@uZ,@uE.eq_1⟩
theorem S5 (p0:al) (p1:al) (r:al×Int) (hh:nk p0 p1=some r):a7 .clean tab uE FU Try.f51 none [.agg [.int .i64 p0.ag,.sl false false p0.aa.length (ae (eI .i64) p0.aa)],.agg [.int .i64 p1.ag,.sl false false p1.aa.length (ae (eI .i64) p1.aa)]]=some (.clean (.tup [.agg [.int .i64 r.1.ag,.sl false false r.1.aa.length (ae (eI .i64) r.1.aa)],.int .i64 r.2]),none):=by
 refine aB rfl Try.ntmps51 Try.results51 ?_
 unfold nk at hh
 obtain⟨r1,hr1,hh⟩:=ah hh
 try simp only[dL,seval,hr1]
 obtain⟨o2,ho2,hh⟩:=ah hh
 refine bS 0 (fun s t H e=>match s with|s17j1=>∃v2j1:Nat,∃v3j1:Nat,∃v4j1:Nat,t 2=.ptr 2 v2j1 0∧t 3=.ptr 3 v3j1 0∧t 4=.ptr 4 v4j1 0∧t 17=.bool s17j1∧H 2=some ⟨v2j1,39,[.int .i64 p0.ag,.sl false false p0.aa.length (ae (eI .i64) p0.aa)],false,false,false⟩∧H 3=some ⟨v3j1,39,[.int .i64 p1.ag,.sl false false p1.aa.length (ae (eI .i64) p1.aa)],false,false,false⟩∧H 4=some ⟨v4j1,39,[.int .i64 0,.sl true true 0 []],false,false,false⟩) (fun s=>s=o2) ?_ ?_
 ·rintro s17j1 t H e ⟨v2j1,v3j1,v4j1,Zj1⟩ rfl
  try dsimp only at hh
  try simp only[dL,seval,hr1,Zj1]
  refine sp an hh (fun _ hh =>?_) (fun _ hh =>?_)
  ·have i4:=ez false 0 ([])
   simp only[aK,bJ,List.length_cons,List.length_nil,adq,Nat.reduceAdd,aeB]at i4
   obtain⟨r5,hr5,hh⟩:=ah hh
   cases hh
   try simp only[dL,seval,hr1,Zj1,i4,hr5]
  ·obtain⟨r6,hr6,hh⟩:=ah hh
   try simp only[dL,seval,hr1,Zj1,hr6]
   refine bo (by kernel_rfl) ?_
   try simp only[dL,seval,hr1,Zj1,hr6]
   obtain⟨o9,ho9,hh⟩:=ah hh
   refine aA (fun s t H e=>match s with|(s6b,s7b)=>∃v4b:Nat,t 4=.ptr 4 v4b 0∧t 6=.sl false false s6b.length (ae (eI .i64) s6b)∧t 7=.sl false false s7b.length (ae (eI .i64) s7b)∧H 4=some ⟨v4b,39,[.int .i64 0,.sl true true 0 []],false,false,false⟩) (fun o x t H e=>match o with|s6bx=>x=.exit 0∧∃v4bx:Nat,t 4=.ptr 4 v4bx 0∧t 6=.sl false false s6bx.length (ae (eI .i64) s6bx)∧H 4=some ⟨v4bx,39,[.int .i64 0,.sl true true 0 []],false,false,false⟩) ho9 ?_ ?_ ?_
   ·refine⟨v4j1,?_,?_,?_,?_⟩
    all_goals first|rfl|(simp only[dL,seval,hr1,Zj1,hr6]<;>rfl)
   ·rintro⟨s6b,s7b⟩ t H e ⟨v4b,Zb⟩ c hh
    simp only[n7]at hh
    try simp only[dL,seval,hr1,hr6,Zb]
    refine sp an hh (fun _ hh =>?_) (fun _ hh =>?_)
    ·obtain⟨r11,hr11,hh⟩:=ah hh
     cases hh
     try simp only[dL,seval,hr1,hr6,Zb,hr11]
     refine j5 ?_
     refine⟨v4b,?_,?_,?_,?_⟩
     all_goals first|rfl|(simp only[dL,seval,hr1,hr6,Zb,hr11]<;>rfl)
    ·cases hh
     try simp only[dL,seval,hr1,hr6,Zb]
     refine ll ?_
     refine⟨rfl,⟨v4b,?_,?_,?_⟩⟩
     all_goals first|rfl|(simp only[dL,seval,hr1,hr6,Zb]<;>rfl)
   ·rintro x t H e hx
    obtain⟨s6bx,rfl⟩:∃z,z=o9:=⟨_,rfl⟩
    dsimp only at hx hh
    obtain⟨rfl,⟨v4bx,Zbx⟩⟩:=hx
    obtain⟨r12,hr12,hh⟩:=ah hh
    obtain⟨r13,hr13,hh⟩:=ah hh
    obtain⟨r14,hr14,hh⟩:=ah hh
    cases hh
    try simp only[dL,seval,hr1,hr6,Zbx,hr12,hr13,hr14]
 ·clear hh
  have hh:=ho2
  try simp only[dL,seval,hr1]
  refine sp bB hh (fun _ hh =>?_) (fun _ hh =>?_)
  ·cases hh
   try simp only[dL,seval,hr1]
   rw[au]
   refine⟨_,rfl,?_⟩
   refine⟨0,0,0,?_,?_,?_,?_,?_,?_,?_⟩
   all_goals first|rfl|(simp only[dL,seval,hr1]<;>rfl)
  ·obtain⟨r16,hr16,hh⟩:=ah hh
   cases hh
   try simp only[dL,seval,hr1,hr16]
   rw[au]
   refine⟨_,rfl,?_⟩
   refine⟨0,0,0,?_,?_,?_,?_,?_,?_,?_⟩
   all_goals first|rfl|(simp only[dL,seval,hr1,hr16]<;>rfl)
theorem CN:bW Try.prog 51 ud:=bW.of (mode := .clean) tok Oo mixed Try.func51 (by kernel_rfl) ⟨by kernel_rfl,by kernel_rfl⟩ (fun _=>aej (by kernel_rfl)) (fun x r h=>S5 x.1 x.2 r h)
noncomputable def xX:=fU (fQ (de eL)) (fun x:al=>qK x) (fun r:Int×Bool =>.clean (.tup [.int .i64 r.1,.bool r.2]))
theorem GA (p0_0:Int) (p0_1:(List Int)):xX none [.agg [.int .i64 p0_0,.sl false false p0_1.length (ae (eI .i64) p0_1)]]=(qK (al.mk p0_0 p0_1)).map fun r:Int×Bool=>(.clean (.tup [.int .i64 r.1,.bool r.2]),none):=aV _ _ _ ((al.mk p0_0 p0_1))
noncomputable def uF:Env:=(Am.ext a6 50 false eC)
theorem Oq:bC Try.prog uF:=(bC.none.add fe false)
theorem bf:type_of% (ai @w<|ai @cj<|@uF.eq_1):=⟨@w,@cj,@uF.eq_1⟩
theorem S6 (p0:al) (r:Int×Bool) (hh:qK p0=some r):a7 .clean tab uF FU Try.f84 none [.agg [.int .i64 p0.ag,.sl false false p0.aa.length (ae (eI .i64) p0.aa)]]=some (.clean (.tup [.int .i64 r.1,.bool r.2]),none):=by
 refine aB rfl Try.ntmps84 Try.results84 ?_
 unfold qK at hh
 obtain⟨r1,hr1,hh⟩:=ah hh
 try simp only[bf,seval,-Int.reduceToNat,hr1]
 obtain⟨o2,ho2,hh⟩:=ah hh
 refine bS 0 (fun s t H e=>match s with|s15j1=>∃v1j1:Nat,t 1=.ptr 1 v1j1 0∧t 15=.bool s15j1∧H 1=some ⟨v1j1,39,[.int .i64 p0.ag,.sl false false p0.aa.length (ae (eI .i64) p0.aa)],false,false,false⟩) (fun s=>s=o2) ?_ ?_
 ·rintro s15j1 t H e ⟨v1j1,Zj1⟩ rfl
  try dsimp only at hh
  try simp only[bf,seval,-Int.reduceToNat,hr1,Zj1]
  refine sp an hh (fun _ hh =>?_) (fun _ hh =>?_)
  ·cases hh
   try simp only[bf,seval,-Int.reduceToNat,hr1,Zj1]
  ·try simp only[bf,seval,-Int.reduceToNat,hr1,Zj1]
   obtain⟨o11,ho11,hh⟩:=ah hh
   refine aA (fun s t H e=>match s with|(s4b,s19b)=>∃v1b:Nat,t 1=.ptr 1 v1b 0∧t 4=.int .u64 s4b∧t 17=.sl false false p0.aa.length (ae (eI .i64) p0.aa)∧t 18=.int .i64 (p0.aa.length:Int)∧t 19=.int .i64 s19b∧H 1=some ⟨v1b,39,[.int .i64 p0.ag,.sl false false p0.aa.length (ae (eI .i64) p0.aa)],false,false,false⟩) (fun o x t H e=>match o with|(.inl s4bx)=>x=.exit 0∧∃v1bx:Nat,t 1=.ptr 1 v1bx 0∧t 4=.int .u64 s4bx∧H 1=some ⟨v1bx,39,[.int .i64 p0.ag,.sl false false p0.aa.length (ae (eI .i64) p0.aa)],false,false,false⟩|(.inr r)=>x=.ret∧jl .clean tab none [.tmp 2,.tmp 3] ⟨t,EH H,e⟩=some (.clean (.tup [.int .i64 r.1,.bool r.2]),none)) ho11 ?_ ?_ ?_
   ·refine⟨v1j1,?_,?_,?_,?_,?_,?_⟩
    all_goals first|rfl|(simp only[bf,seval,-Int.reduceToNat,hr1,Zj1]<;>rfl)
   ·rintro⟨s4b,s19b⟩ t H e ⟨v1b,Zb⟩ c hh
    simp only[qL]at hh
    try simp only[bf,seval,-Int.reduceToNat,hr1,Zb]
    refine sp an hh (fun _ hh =>?_) (fun _ hh =>?_)
    ·obtain⟨x13,hx13,hh⟩:=ah hh
     have ax13:=bN (eI .i64) hx13
     simp only[bJ]at ax13
     try simp only[bf,seval,-Int.reduceToNat,hr1,Zb,ax13]
     obtain⟨o14,ho14,hh⟩:=ah hh
     refine bS 0 (fun s t H e=>match s with|s29j4=>∃v1j4:Nat,t 1=.ptr 1 v1j4 0∧t 4=.int .u64 s4b∧t 5=.int .i64 s19b∧t 6=.int .i64 x13∧t 17=.sl false false p0.aa.length (ae (eI .i64) p0.aa)∧t 18=.int .i64 (p0.aa.length:Int)∧t 19=.int .i64 s19b∧t 29=.bool s29j4∧H 1=some ⟨v1j4,39,[.int .i64 p0.ag,.sl false false p0.aa.length (ae (eI .i64) p0.aa)],false,false,false⟩) (fun s=>s=o14) ?_ ?_
     ·rintro s29j4 t H e ⟨v1j4,Zj4⟩ rfl
      try dsimp only at hh
      try simp only[bf,seval,-Int.reduceToNat,hr1,ax13,Zj4]
      refine sp an hh (fun _ hh =>?_) (fun _ hh =>?_)
      ·cases hh
       try simp only[bf,seval,-Int.reduceToNat,hr1,ax13,Zj4]
       refine IZ ⟨rfl,?_⟩
       try simp only[bf,seval,-Int.reduceToNat,hr1,ax13,Zj4]
      ·obtain⟨x16,hx16,hh⟩:=ah hh
       have q17:=AF hx16
       cases hh
       try simp only[bf,seval,-Int.reduceToNat,hr1,ax13,Zj4,q17]
       refine j5 ?_
       refine⟨v1j4,?_,?_,?_,?_,?_,?_⟩
       all_goals first|rfl|(simp only[bf,seval,-Int.reduceToNat,hr1,ax13,Zj4,q17]<;>rfl)
     ·clear hh
      have hh:=ho14
      try simp only[bf,seval,-Int.reduceToNat,hr1,Zb,ax13]
      refine sp dW hh (fun _ hh =>?_) (fun _ hh =>?_)
      ·cases hh
       try simp only[bf,seval,-Int.reduceToNat,hr1,Zb,ax13]
       rw[au]
       refine⟨_,rfl,?_⟩
       refine⟨v1b,?_,?_,?_,?_,?_,?_,?_,?_,?_⟩
       all_goals first|rfl|(simp only[bf,seval,-Int.reduceToNat,hr1,Zb,ax13]<;>rfl)
      ·cases hh
       try simp only[bf,seval,-Int.reduceToNat,hr1,Zb,ax13]
       rw[au]
       refine⟨_,rfl,?_⟩
       refine⟨v1b,?_,?_,?_,?_,?_,?_,?_,?_,?_⟩
       all_goals first|rfl|(simp only[bf,seval,-Int.reduceToNat,hr1,Zb,ax13]<;>rfl)
    ·cases hh
     try simp only[bf,seval,-Int.reduceToNat,hr1,Zb]
     refine ll ?_
     refine⟨rfl,⟨v1b,?_,?_,?_⟩⟩
     all_goals first|rfl|(simp only[bf,seval,-Int.reduceToNat,hr1,Zb]<;>rfl)
   ·rintro x t H e hx
    rcases o11 with s4bx|rb
    ·dsimp only at hx hh
     obtain⟨rfl,⟨v1bx,Zbx⟩⟩:=hx
     try simp only[bf,seval,-Int.reduceToNat,hr1,Zbx]
     obtain⟨o19,ho19,hh⟩:=ah hh
     refine bS 0 (fun s t H e=>match s with|s38j5=>∃v1j5:Nat,t 1=.ptr 1 v1j5 0∧t 4=.int .u64 s4bx∧t 38=.bool s38j5∧H 1=some ⟨v1j5,39,[.int .i64 p0.ag,.sl false false p0.aa.length (ae (eI .i64) p0.aa)],false,false,false⟩) (fun s=>s=o19) ?_ ?_
     ·rintro s38j5 t H e ⟨v1j5,Zj5⟩ rfl
      try dsimp only at hh
      try simp only[bf,seval,-Int.reduceToNat,hr1,Zj5]
      refine sp an hh (fun _ hh =>?_) (fun _ hh =>?_)
      ·cases hh
       try simp only[bf,seval,-Int.reduceToNat,hr1,Zj5]
      ·try simp only[bf,seval,-Int.reduceToNat,hr1,Zj5]
       refine sp dW hh (fun _ hh =>?_) (fun _ hh =>?_)
       ·try simp only[bf,seval,-Int.reduceToNat,hr1,Zj5]
        refine sp an hh (fun _ hh =>?_) (fun _ hh =>?_)
        ·cases hh
         try simp only[bf,seval,-Int.reduceToNat,hr1,Zj5]
        ·cases hh
         try simp only[bf,seval,-Int.reduceToNat,hr1,Zj5]
       ·cases hh
        try simp only[bf,seval,-Int.reduceToNat,hr1,Zj5]
     ·clear hh
      have hh:=ho19
      try simp only[bf,seval,-Int.reduceToNat,hr1,Zbx]
      refine sp dW hh (fun _ hh =>?_) (fun _ hh =>?_)
      ·cases hh
       try simp only[bf,seval,-Int.reduceToNat,hr1,Zbx]
       rw[au]
       refine⟨_,rfl,?_⟩
       refine⟨v1bx,?_,?_,?_,?_⟩
       all_goals first|rfl|(simp only[bf,seval,-Int.reduceToNat,hr1,Zbx]<;>rfl)
      ·cases hh
       try simp only[bf,seval,-Int.reduceToNat,hr1,Zbx]
       rw[au]
       refine⟨_,rfl,?_⟩
       refine⟨v1bx,?_,?_,?_,?_⟩
       all_goals first|rfl|(simp only[bf,seval,-Int.reduceToNat,hr1,Zbx]<;>rfl)
    ·dsimp only at hx hh
     obtain⟨rfl,hE⟩:=hx
     cases hh
     try simp only[bP,bH,b7,eH,eE,dI,dJ]
     exact hE
 ·clear hh
  have hh:=ho2
  try simp only[bf,seval,-Int.reduceToNat,hr1]
  refine sp bB hh (fun _ hh =>?_) (fun _ hh =>?_)
  ·cases hh
   try simp only[bf,seval,-Int.reduceToNat,hr1]
   rw[au]
   refine⟨_,rfl,?_⟩
   refine⟨0,?_,?_,?_⟩
   all_goals first|rfl|(simp only[bf,seval,-Int.reduceToNat,hr1]<;>rfl)
  ·cases hh
   try simp only[bf,seval,-Int.reduceToNat,hr1]
   rw[au]
   refine⟨_,rfl,?_⟩
   refine⟨0,?_,?_,?_⟩
   all_goals first|rfl|(simp only[bf,seval,-Int.reduceToNat,hr1]<;>rfl)
theorem Pb:bW Try.prog 84 xX:=bW.of (mode := .clean) tok Oq mixed Try.func84 (by kernel_rfl) ⟨by kernel_rfl,by kernel_rfl⟩ (fun _=>aej (by kernel_rfl)) (fun x r h=>S6 x r h)
noncomputable def v7:=fU (fQ (de eL)) (fun x:al=>ow x) (fun r:Bool =>.clean (.bool r))
theorem C6 (p0_0:Int) (p0_1:(List Int)):v7 none [.agg [.int .i64 p0_0,.sl false false p0_1.length (ae (eI .i64) p0_1)]]=(ow (al.mk p0_0 p0_1)).map fun r:Bool=>(.clean (.bool r),none):=aV _ _ _ ((al.mk p0_0 p0_1))
noncomputable def rm:Env:=(Am.ext a6 84 false xX)
theorem KI:bC Try.prog rm:=(bC.none.add Pb false)
theorem wO:type_of% (ai @w<|ai @GA<|@rm.eq_1):=⟨@w,@GA,@rm.eq_1⟩
theorem OT (p0:al) (r:Bool) (hh:ow p0=some r):a7 .clean tab rm FU Try.f52 none [.agg [.int .i64 p0.ag,.sl false false p0.aa.length (ae (eI .i64) p0.aa)]]=some (.clean (.bool r),none):=by
 refine aB rfl Try.ntmps52 Try.results52 ?_
 unfold ow at hh
 obtain⟨r1,hr1,hh⟩:=ah hh
 try simp only[wO,seval,hr1]
 refine sp dW hh (fun _ hh =>?_) (fun _ hh =>?_)
 ·cases hh
  try simp only[wO,seval,hr1]
 ·cases hh
  try simp only[wO,seval,hr1]
theorem Mz:bW Try.prog 52 v7:=bW.of (mode := .clean) tok KI mixed Try.func52 (by kernel_rfl) ⟨by kernel_rfl,by kernel_rfl⟩ (fun _=>aej (by kernel_rfl)) (fun x r h=>OT x r h)
noncomputable def ew:=fU (fQ (de ay)) (fun x:ak=>ca x) (fun r:Bool =>.clean (.bool r))
theorem cl (p0_0:Int) (p0_1:(List Int)) (p0_2:Int) (p0_3:(List Int)):ew none [.agg [.int .i64 p0_0,.sl false false p0_1.length (ae (eI .i64) p0_1),.int .i64 p0_2,.sl false false p0_3.length (ae (eI .i64) p0_3)]]=(ca (ak.mk (al.mk p0_0 p0_1) (al.mk p0_2 p0_3))).map fun r:Bool=>(.clean (.bool r),none):=aV _ _ _ ((ak.mk (al.mk p0_0 p0_1) (al.mk p0_2 p0_3)))
noncomputable def ny:Env:=(Am.ext (Am.ext (Am.ext a6 50 false eC) 51 false ud) 52 false v7)
theorem DU:bC Try.prog ny:=(((bC.none.add fe false).add CN false).add Mz false)
theorem cR:type_of% (ai @w<|ai @cj<|ai @uX<|ai @C6<|@ny.eq_1):=⟨@w,@cj,@uX,@C6,@ny.eq_1⟩
theorem Ia (p0:ak) (r:Bool) (hh:ca p0=some r):a7 .clean tab ny FU Try.f22 none [.agg [.int .i64 p0.aH.ag,.sl false false p0.aH.aa.length (ae (eI .i64) p0.aH.aa),.int .i64 p0.aJ.ag,.sl false false p0.aJ.aa.length (ae (eI .i64) p0.aJ.aa)]]=some (.clean (.bool r),none):=by
 refine aB rfl Try.ntmps22 Try.results22 ?_
 unfold ca at hh
 obtain⟨r1,hr1,hh⟩:=ah hh
 try simp only[cR,seval,hr1]
 obtain⟨o2,ho2,hh⟩:=ah hh
 refine bS 0 (fun s t H e=>match s with|s20j1=>∃v1j1:Nat,t 1=.ptr 1 v1j1 0∧t 20=.bool s20j1∧H 1=some ⟨v1j1,41,[.int .i64 p0.aH.ag,.sl false false p0.aH.aa.length (ae (eI .i64) p0.aH.aa),.int .i64 p0.aJ.ag,.sl false false p0.aJ.aa.length (ae (eI .i64) p0.aJ.aa)],false,false,false⟩) (fun s=>s=o2) ?_ ?_
 ·rintro s20j1 t H e ⟨v1j1,Zj1⟩ rfl
  try dsimp only at hh
  try simp only[cR,seval,hr1,Zj1]
  refine sp an hh (fun _ hh =>?_) (fun _ hh =>?_)
  ·cases hh
   try simp only[cR,seval,hr1,Zj1]
  ·obtain⟨r4,hr4,hh⟩:=ah hh
   try simp only[cR,seval,hr1,Zj1,hr4]
   refine sp dW hh (fun _ hh =>?_) (fun _ hh =>?_)
   ·obtain⟨r6,hr6,hh⟩:=ah hh
    cases hh
    try simp only[cR,seval,hr1,Zj1,hr4,hr6]
   ·cases hh
    try simp only[cR,seval,hr1,Zj1,hr4]
 ·clear hh
  have hh:=ho2
  try simp only[cR,seval,hr1]
  refine sp bB hh (fun _ hh =>?_) (fun _ hh =>?_)
  ·cases hh
   try simp only[cR,seval,hr1]
   rw[au]
   refine⟨_,rfl,?_⟩
   refine⟨0,?_,?_,?_⟩
   all_goals first|rfl|(simp only[cR,seval,hr1]<;>rfl)
  ·obtain⟨r8,hr8,hh⟩:=ah hh
   try simp only[cR,seval,hr1,hr8]
   refine sp bB hh (fun _ hh =>?_) (fun _ hh =>?_)
   ·cases hh
    try simp only[cR,seval,hr1,hr8]
    rw[au]
    refine⟨_,rfl,?_⟩
    refine⟨0,?_,?_,?_⟩
    all_goals first|rfl|(simp only[cR,seval,hr1,hr8]<;>rfl)
   ·cases hh
    try simp only[cR,seval,hr1,hr8]
    rw[au]
    refine⟨_,rfl,?_⟩
    refine⟨0,?_,?_,?_⟩
    all_goals first|rfl|(simp only[cR,seval,hr1,hr8]<;>rfl)
theorem fi:bW Try.prog 22 ew:=bW.of (mode := .clean) tok DU mixed Try.func22 (by kernel_rfl) ⟨by kernel_rfl,by kernel_rfl⟩ (fun _=>aej (by kernel_rfl)) (fun x r h=>Ia x r h)
noncomputable def mw:=fU (fQ (de ay)) (fun x:ak=>iz x) (fun r:Int =>.clean (.int .i64 r))
theorem kE (p0_0:Int) (p0_1:(List Int)) (p0_2:Int) (p0_3:(List Int)):mw none [.agg [.int .i64 p0_0,.sl false false p0_1.length (ae (eI .i64) p0_1),.int .i64 p0_2,.sl false false p0_3.length (ae (eI .i64) p0_3)]]=(iz (ak.mk (al.mk p0_0 p0_1) (al.mk p0_2 p0_3))).map fun r:Int=>(.clean (.int .i64 r),none):=aV _ _ _ ((ak.mk (al.mk p0_0 p0_1) (al.mk p0_2 p0_3)))
noncomputable def pc:Env:=(Am.ext a6 22 false ew)
theorem HU:bC Try.prog pc:=(bC.none.add fi false)
theorem ua:type_of% (ai @w<|ai @cl<|@pc.eq_1):=⟨@w,@cl,@pc.eq_1⟩
theorem LU (p0:ak) (r:Int) (hh:iz p0=some r):a7 .clean tab pc FU Try.f20 none [.agg [.int .i64 p0.aH.ag,.sl false false p0.aH.aa.length (ae (eI .i64) p0.aH.aa),.int .i64 p0.aJ.ag,.sl false false p0.aJ.aa.length (ae (eI .i64) p0.aJ.aa)]]=some (.clean (.int .i64 r),none):=by
 refine aB rfl Try.ntmps20 Try.results20 ?_
 unfold iz at hh
 obtain⟨r1,hr1,hh⟩:=ah hh
 try simp only[ua,seval,hr1]
 refine sp an hh (fun _ hh =>?_) (fun _ hh =>?_)
 ·cases hh
  try simp only[ua,seval,hr1]
 ·cases hh
  try simp only[ua,seval,hr1]
theorem rK:bW Try.prog 20 mw:=bW.of (mode := .clean) tok HU mixed Try.func20 (by kernel_rfl) ⟨by kernel_rfl,by kernel_rfl⟩ (fun _=>aej (by kernel_rfl)) (fun x r h=>LU x r h)
noncomputable def wU:=fU (fQ (mX (eI .i64))) (fun x:(List Int)=>s6 x) (fun r:Int =>.clean (.int .i64 r))
theorem qn (p0:(List Int)):wU none [.sl false false p0.length (ae (eI .i64) p0)]=(s6 p0).map fun r:Int=>(.clean (.int .i64 r),none):=aV _ _ _ (p0)
theorem Vy (p0:(List Int)) (r:Int) (hh:s6 p0=some r):a7 .clean tab a6 FU Try.f65 none [.sl false false p0.length (ae (eI .i64) p0)]=some (.clean (.int .i64 r),none):=by
 refine aB rfl Try.ntmps65 Try.results65 ?_
 unfold s6 at hh
 try simp only[w,seval]
 obtain⟨o4,ho4,hh⟩:=ah hh
 refine aA (fun s t H e=>match s with|s8a=>t 3=.int .i64 0∧t 6=.sl false false p0.length (ae (eI .i64) p0)∧t 7=.int .i64 (p0.length:Int)∧t 8=.int .i64 s8a) (fun o x t H e=>match o with|(.inl _)=>x=.exit 0∧t 3=.int .i64 0|(.inr r)=>x=.ret∧jl .clean tab none [.tmp 2] ⟨t,EH H,e⟩=some (.clean (.int .i64 r),none)) ho4 ?_ ?_ ?_
 ·refine⟨?_,?_,?_,?_⟩
  all_goals first|rfl|(simp only[w,seval]<;>rfl)
 ·rintro s8a t H e Za c hh
  simp only[uv]at hh
  try simp only[w,seval,Za]
  refine sp an hh (fun _ hh =>?_) (fun _ hh =>?_)
  ·obtain⟨x6,hx6,hh⟩:=ah hh
   have ax6:=bN (eI .i64) hx6
   simp only[bJ]at ax6
   try simp only[w,seval,Za,ax6]
   refine sp an hh (fun _ hh =>?_) (fun _ hh =>?_)
   ·cases hh
    try simp only[w,seval,Za,ax6]
    refine IZ ⟨rfl,?_⟩
    try simp only[w,seval,Za,ax6]
   ·cases hh
    try simp only[w,seval,Za,ax6]
    refine j5 ?_
    refine⟨?_,?_,?_,?_⟩
    all_goals first|rfl|(simp only[w,seval,Za,ax6]<;>rfl)
  ·cases hh
   try simp only[w,seval,Za]
   refine ll ?_
   refine⟨rfl,?_⟩
   all_goals first|rfl|(simp only[w,seval,Za]<;>rfl)
 ·rintro x t H e hx
  rcases o4 with _|ra
  ·dsimp only at hx hh
   obtain⟨rfl,Zax⟩:=hx
   cases hh
   try simp only[w,seval,Zax]
  ·dsimp only at hx hh
   obtain⟨rfl,hE⟩:=hx
   cases hh
   try simp only[bP,bH,b7,eH,eE,dI,dJ]
   exact hE
theorem Gq:bW Try.prog 65 wU:=bW.of (mode := .clean) tok bC.none mixed Try.func65 (by kernel_rfl) ⟨by kernel_rfl,by kernel_rfl⟩ (fun _=>aej (by kernel_rfl)) (fun x r h=>Vy x r h)
noncomputable def qC:=fU (jg (de ba) (fQ (de ba))) (fun x:dk×dk=>ki x.1 x.2) (fun r:Int =>.clean (.int .i64 r))
theorem xE (p0_0:Int) (p0_1:Int) (p0_2:Int) (p0_3:(List Int)) (p0_4:Int) (p0_5:(List Int)) (p1_0:Int) (p1_1:Int) (p1_2:Int) (p1_3:(List Int)) (p1_4:Int) (p1_5:(List Int)):qC none [.agg [.int .i64 p0_0,.int .i64 p0_1,.int .i64 p0_2,.sl false false p0_3.length (ae (eI .i64) p0_3),.int .i64 p0_4,.sl false false p0_5.length (ae (eI .i64) p0_5)],.agg [.int .i64 p1_0,.int .i64 p1_1,.int .i64 p1_2,.sl false false p1_3.length (ae (eI .i64) p1_3),.int .i64 p1_4,.sl false false p1_5.length (ae (eI .i64) p1_5)]]=(ki (dk.mk p0_0 p0_1 (ak.mk (al.mk p0_2 p0_3) (al.mk p0_4 p0_5))) (dk.mk p1_0 p1_1 (ak.mk (al.mk p1_2 p1_3) (al.mk p1_4 p1_5)))).map fun r:Int=>(.clean (.int .i64 r),none):=aV _ _ _ ((dk.mk p0_0 p0_1 (ak.mk (al.mk p0_2 p0_3) (al.mk p0_4 p0_5))),(dk.mk p1_0 p1_1 (ak.mk (al.mk p1_2 p1_3) (al.mk p1_4 p1_5))))
noncomputable def nB:Env:=(Am.ext (Am.ext a6 65 false wU) 66 false iu)
theorem DW:bC Try.prog nB:=((bC.none.add Gq false).add lx false)
theorem xS:type_of% (ai @w<|ai @qn<|ai @fk<|@nB.eq_1):=⟨@w,@qn,@fk,@nB.eq_1⟩
theorem Ic (p0:dk) (p1:dk) (r:Int) (hh:ki p0 p1=some r):a7 .clean tab nB FU Try.f35 none [.agg [.int .i64 p0.dj,.int .i64 p0.lG,.int .i64 p0.bd.aH.ag,.sl false false p0.bd.aH.aa.length (ae (eI .i64) p0.bd.aH.aa),.int .i64 p0.bd.aJ.ag,.sl false false p0.bd.aJ.aa.length (ae (eI .i64) p0.bd.aJ.aa)],.agg [.int .i64 p1.dj,.int .i64 p1.lG,.int .i64 p1.bd.aH.ag,.sl false false p1.bd.aH.aa.length (ae (eI .i64) p1.bd.aH.aa),.int .i64 p1.bd.aJ.ag,.sl false false p1.bd.aJ.aa.length (ae (eI .i64) p1.bd.aJ.aa)]]=some (.clean (.int .i64 r),none):=by
 refine aB rfl Try.ntmps35 Try.results35 ?_
 unfold ki at hh
 obtain⟨r1,hr1,hh⟩:=ah hh
 obtain⟨r2,hr2,hh⟩:=ah hh
 have i3:=qn ([r1,r2])
 simp only[aK,bJ,List.length_cons,List.length_nil,adq,Nat.reduceAdd,aeB]at i3
 obtain⟨r4,hr4,hh⟩:=ah hh
 try simp only[xS,seval,hr1,hr2,i3,hr4]
 refine bo (by kernel_rfl) ?_
 cases hh
 try simp only[xS,seval,hr1,hr2,i3,hr4]
theorem Ea:bW Try.prog 35 qC:=bW.of (mode := .clean) tok DW mixed Try.func35 (by kernel_rfl) ⟨by kernel_rfl,by kernel_rfl⟩ (fun _=>aej (by kernel_rfl)) (fun x r h=>Ic x.1 x.2 r h)
noncomputable def AJ:=fU (fQ (aI .i64)) (fun x:Int=>sV x) (fun r:al =>.clean (.agg [.int .i64 r.ag,.sl false false r.aa.length (ae (eI .i64) r.aa)]))
theorem MO (p0:Int):AJ none [.int .i64 p0]=(sV p0).map fun r:al=>(.clean (.agg [.int .i64 r.ag,.sl false false r.aa.length (ae (eI .i64) r.aa)]),none):=aV _ _ _ (p0)
noncomputable def xl:Env:=(Am.ext a6 76 false fX)
theorem SR:bC Try.prog xl:=(bC.none.add iB false)
theorem gq:type_of% (ai @w<|ai @dy<|@xl.eq_1):=⟨@w,@dy,@xl.eq_1⟩
theorem Vx (p0:Int) (r:al) (hh:sV p0=some r):a7 .clean tab xl FU Try.f73 none [.int .i64 p0]=some (.clean (.agg [.int .i64 r.ag,.sl false false r.aa.length (ae (eI .i64) r.aa)]),none):=by
 refine aB rfl Try.ntmps73 Try.results73 ?_
 unfold sV at hh
 try simp only[gq,seval,-Int.reduceToNat]
 obtain⟨o1,ho1,hh⟩:=ah hh
 refine jW 0 (fun s t H e=>match s with|(s3j1,s4j1)=>∃v2j1:Nat,t 2=.ptr 2 v2j1 0∧t 3=.int .i64 s3j1∧t 4=.int .u64 s4j1∧H 2=some ⟨v2j1,39,[.int .i64 0,.sl true true 0 []],false,false,false⟩) (fun s=>s=o1) ?_ ?_
 ·rintro⟨s3j1,s4j1⟩ t H e ⟨v2j1,Zj1⟩ rfl
  try dsimp only at hh
  try simp only[gq,seval,-Int.reduceToNat,Zj1]
  obtain⟨o7,ho7,hh⟩:=ah hh
  refine aA (fun s t H e=>match s with|(s4b,l5b)=>∃v2b:Nat,∃v5b:Nat,t 2=.ptr 2 v2b 0∧t 3=.int .i64 s3j1∧t 4=.int .u64 s4b∧t 5=.buf 5 v5b 1 0 (l5b).length∧H 2=some ⟨v2b,39,[.int .i64 0,.sl true true 0 []],false,false,false⟩∧H 5=some ⟨v5b,3,ae (eI .i64) l5b,false,true,false⟩) (fun o x t H e=>match o with|l5bx=>x=.exit 0∧∃v2bx:Nat,∃v5bx:Nat,t 2=.ptr 2 v2bx 0∧t 3=.int .i64 s3j1∧t 5=.buf 5 v5bx 1 0 (l5bx).length∧H 2=some ⟨v2bx,39,[.int .i64 0,.sl true true 0 []],false,false,false⟩∧H 5=some ⟨v5bx,3,ae (eI .i64) l5bx,false,true,false⟩) ho7 ?_ ?_ ?_
  ·refine⟨v2j1,e,?_,?_,?_,?_,?_,?_⟩
   all_goals first|rfl|(simp only[gq,seval,-Int.reduceToNat,Zj1]<;>rfl)
  ·rintro⟨s4b,l5b⟩ t H e ⟨v2b,v5b,Zb⟩ c hh
   simp only[uq]at hh
   try simp only[gq,seval,-Int.reduceToNat,Zb]
   refine sp an hh (fun _ hh =>?_) (fun _ hh =>?_)
   ·obtain⟨x9,hx9,hh⟩:=ah hh
    obtain⟨q10a,q10b,q10c,q10d⟩:=iK (eI .i64) hx9
    simp only[bJ]at q10b
    obtain⟨x11,hx11,hh⟩:=ah hh
    have q12:=sa hx11
    cases hh
    try simp only[gq,seval,-Int.reduceToNat,Zb,q10a,q10b,q10c,q10d,q12]
    refine j5 ?_
    refine⟨v2b,e+1,?_,?_,?_,?_,?_,?_⟩
    all_goals first|rfl|(simp only[gq,seval,-Int.reduceToNat,Zb,q10a,q10b,q10c,q10d,q12]<;>rfl)
   ·cases hh
    try simp only[gq,seval,-Int.reduceToNat,Zb]
    refine ll ?_
    refine⟨rfl,⟨v2b,v5b,?_,?_,?_,?_,?_⟩⟩
    all_goals first|rfl|(simp only[gq,seval,-Int.reduceToNat,Zb]<;>rfl)
  ·rintro x t H e hx
   obtain⟨l5bx,rfl⟩:∃z,z=o7:=⟨_,rfl⟩
   dsimp only at hx hh
   obtain⟨rfl,⟨v2bx,v5bx,Zbx⟩⟩:=hx
   obtain⟨r13,hr13,hh⟩:=ah hh
   cases hh
   try simp only[gq,seval,-Int.reduceToNat,Zbx,hr13]
 ·clear hh
  have hh:=ho1
  try simp only[gq,seval,-Int.reduceToNat]
  refine sp an hh (fun _ hh =>?_) (fun _ hh =>?_)
  ·cases hh
   try simp only[gq,seval,-Int.reduceToNat]
   rw[au]
   refine⟨_,rfl,?_⟩
   refine⟨0,?_,?_,?_,?_⟩
   all_goals first|rfl|(simp only[gq,seval,-Int.reduceToNat]<;>rfl)
  ·cases hh
   try simp only[gq,seval,-Int.reduceToNat]
   rw[au]
   refine⟨_,rfl,?_⟩
   refine⟨0,?_,?_,?_,?_⟩
   all_goals first|rfl|(simp only[gq,seval,-Int.reduceToNat]<;>rfl)
theorem Tt:bW Try.prog 73 AJ:=bW.of (mode := .clean) tok SR mixed Try.func73 (by kernel_rfl) ⟨by kernel_rfl,by kernel_rfl⟩ (fun _=>aej (by kernel_rfl)) (fun x r h=>Vx x r h)
noncomputable def ka:=fU (fQ (aI .i64)) (fun x:Int=>gK x) (fun r:ak =>.clean (.agg [.int .i64 r.aH.ag,.sl false false r.aH.aa.length (ae (eI .i64) r.aH.aa),.int .i64 r.aJ.ag,.sl false false r.aJ.aa.length (ae (eI .i64) r.aJ.aa)]))
theorem gw (p0:Int):ka none [.int .i64 p0]=(gK p0).map fun r:ak=>(.clean (.agg [.int .i64 r.aH.ag,.sl false false r.aH.aa.length (ae (eI .i64) r.aH.aa),.int .i64 r.aJ.ag,.sl false false r.aJ.aa.length (ae (eI .i64) r.aJ.aa)]),none):=aV _ _ _ (p0)
noncomputable def rh:Env:=(Am.ext a6 73 false AJ)
theorem KE:bC Try.prog rh:=(bC.none.add Tt false)
theorem P3:type_of% (ai @w<|ai @MO<|@rh.eq_1):=⟨@w,@MO,@rh.eq_1⟩
theorem OP (p0:Int) (r:ak) (hh:gK p0=some r):a7 .clean tab rh FU Try.f44 none [.int .i64 p0]=some (.clean (.agg [.int .i64 r.aH.ag,.sl false false r.aH.aa.length (ae (eI .i64) r.aH.aa),.int .i64 r.aJ.ag,.sl false false r.aJ.aa.length (ae (eI .i64) r.aJ.aa)]),none):=by
 refine aB rfl Try.ntmps44 Try.results44 ?_
 unfold gK at hh
 obtain⟨r1,hr1,hh⟩:=ah hh
 obtain⟨r2,hr2,hh⟩:=ah hh
 cases hh
 try simp only[P3,seval,hr1,hr2]
theorem mQ:bW Try.prog 44 ka:=bW.of (mode := .clean) tok KE mixed Try.func44 (by kernel_rfl) ⟨by kernel_rfl,by kernel_rfl⟩ (fun _=>aej (by kernel_rfl)) (fun x r h=>OP x r h)
noncomputable def ue:=fU (fQ (de eL)) (fun x:al=>mg x) (fun r:al =>.clean (.agg [.int .i64 r.ag,.sl false false r.aa.length (ae (eI .i64) r.aa)]))
theorem uY (p0_0:Int) (p0_1:(List Int)):ue none [.agg [.int .i64 p0_0,.sl false false p0_1.length (ae (eI .i64) p0_1)]]=(mg (al.mk p0_0 p0_1)).map fun r:al=>(.clean (.agg [.int .i64 r.ag,.sl false false r.aa.length (ae (eI .i64) r.aa)]),none):=aV _ _ _ ((al.mk p0_0 p0_1))
noncomputable def uH:Env:=(Am.ext (Am.ext (Am.ext a6 50 false eC) 76 false fX) 82 false gH)
theorem Ou:bC Try.prog uH:=(((bC.none.add fe false).add iB false).add j6 false)
theorem vp:type_of% (ai @w<|ai @cj<|ai @dy<|ai @eG<|@uH.eq_1):=⟨@w,@cj,@dy,@eG,@uH.eq_1⟩
theorem S8 (p0:al) (r:al) (hh:mg p0=some r):a7 .clean tab uH FU Try.f64 none [.agg [.int .i64 p0.ag,.sl false false p0.aa.length (ae (eI .i64) p0.aa)]]=some (.clean (.agg [.int .i64 r.ag,.sl false false r.aa.length (ae (eI .i64) r.aa)]),none):=by
 refine aB rfl Try.ntmps64 Try.results64 ?_
 unfold mg at hh
 obtain⟨r1,hr1,hh⟩:=ah hh
 try simp only[vp,seval,hr1]
 refine sp an hh (fun _ hh =>?_) (fun _ hh =>?_)
 ·cases hh
  try simp only[vp,seval,hr1]
 ·obtain⟨r3,hr3,hh⟩:=ah hh
  obtain⟨r4,hr4,hh⟩:=ah hh
  try simp only[vp,seval,hr1,hr3,hr4]
  refine bo (by kernel_rfl) ?_
  cases hh
  try simp only[vp,seval,hr1,hr3,hr4]
theorem CO:bW Try.prog 64 ue:=bW.of (mode := .clean) tok Ou mixed Try.func64 (by kernel_rfl) ⟨by kernel_rfl,by kernel_rfl⟩ (fun _=>aej (by kernel_rfl)) (fun x r h=>S8 x r h)
noncomputable def xY:=fU (jg (de eL) (fQ (de eL))) (fun x:al×al=>qM x.1 x.2) (fun r:al×Int =>.clean (.tup [.agg [.int .i64 r.1.ag,.sl false false r.1.aa.length (ae (eI .i64) r.1.aa)],.int .i64 r.2]))
theorem GB (p0_0:Int) (p0_1:(List Int)) (p1_0:Int) (p1_1:(List Int)):xY none [.agg [.int .i64 p0_0,.sl false false p0_1.length (ae (eI .i64) p0_1)],.agg [.int .i64 p1_0,.sl false false p1_1.length (ae (eI .i64) p1_1)]]=(qM (al.mk p0_0 p0_1) (al.mk p1_0 p1_1)).map fun r:al×Int=>(.clean (.tup [.agg [.int .i64 r.1.ag,.sl false false r.1.aa.length (ae (eI .i64) r.1.aa)],.int .i64 r.2]),none):=aV _ _ _ ((al.mk p0_0 p0_1),(al.mk p1_0 p1_1))
noncomputable def uG:Env:=(Am.ext (Am.ext (Am.ext (Am.ext a6 50 false eC) 75 false jH) 76 false fX) 103 false uh)
theorem Ot:bC Try.prog uG:=((((bC.none.add fe false).add oG false).add iB false).add CR false)
theorem iE:type_of% (ai @w<|ai @cj<|ai @ez<|ai @dy<|ai @nS<|@uG.eq_1):=⟨@w,@cj,@ez,@dy,@nS,@uG.eq_1⟩
theorem S7 (p0:al) (p1:al) (r:al×Int) (hh:qM p0 p1=some r):a7 .clean tab uG FU Try.f80 none [.agg [.int .i64 p0.ag,.sl false false p0.aa.length (ae (eI .i64) p0.aa)],.agg [.int .i64 p1.ag,.sl false false p1.aa.length (ae (eI .i64) p1.aa)]]=some (.clean (.tup [.agg [.int .i64 r.1.ag,.sl false false r.1.aa.length (ae (eI .i64) r.1.aa)],.int .i64 r.2]),none):=by
 refine aB rfl Try.ntmps80 Try.results80 ?_
 unfold qM at hh
 obtain⟨r1,hr1,hh⟩:=ah hh
 try simp only[iE,seval,hr1]
 obtain⟨o2,ho2,hh⟩:=ah hh
 refine bS 0 (fun s t H e=>match s with|s13j1=>∃v2j1:Nat,∃v3j1:Nat,∃v4j1:Nat,t 2=.ptr 2 v2j1 0∧t 3=.ptr 3 v3j1 0∧t 4=.ptr 4 v4j1 0∧t 13=.bool s13j1∧H 2=some ⟨v2j1,39,[.int .i64 p0.ag,.sl false false p0.aa.length (ae (eI .i64) p0.aa)],false,false,false⟩∧H 3=some ⟨v3j1,39,[.int .i64 p1.ag,.sl false false p1.aa.length (ae (eI .i64) p1.aa)],false,false,false⟩∧H 4=some ⟨v4j1,39,[.int .i64 0,.sl true true 0 []],false,false,false⟩) (fun s=>s=o2) ?_ ?_
 ·rintro s13j1 t H e ⟨v2j1,v3j1,v4j1,Zj1⟩ rfl
  try dsimp only at hh
  try simp only[iE,seval,hr1,Zj1]
  refine sp an hh (fun _ hh =>?_) (fun _ hh =>?_)
  ·have i4:=ez false 0 ([])
   simp only[aK,bJ,List.length_cons,List.length_nil,adq,Nat.reduceAdd,aeB]at i4
   obtain⟨r5,hr5,hh⟩:=ah hh
   cases hh
   try simp only[iE,seval,hr1,Zj1,i4,hr5]
  ·obtain⟨r6,hr6,hh⟩:=ah hh
   obtain⟨r7,hr7,hh⟩:=ah hh
   obtain⟨r8,hr8,hh⟩:=ah hh
   try simp only[iE,seval,hr1,Zj1,hr6,hr7,hr8]
   refine bo (by kernel_rfl) ?_
   cases hh
   try simp only[iE,seval,hr1,Zj1,hr6,hr7,hr8]
 ·clear hh
  have hh:=ho2
  try simp only[iE,seval,hr1]
  refine sp bB hh (fun _ hh =>?_) (fun _ hh =>?_)
  ·cases hh
   try simp only[iE,seval,hr1]
   rw[au]
   refine⟨_,rfl,?_⟩
   refine⟨0,0,0,?_,?_,?_,?_,?_,?_,?_⟩
   all_goals first|rfl|(simp only[iE,seval,hr1]<;>rfl)
  ·obtain⟨r10,hr10,hh⟩:=ah hh
   cases hh
   try simp only[iE,seval,hr1,hr10]
   rw[au]
   refine⟨_,rfl,?_⟩
   refine⟨0,0,0,?_,?_,?_,?_,?_,?_,?_⟩
   all_goals first|rfl|(simp only[iE,seval,hr1,hr10]<;>rfl)
theorem Pc:bW Try.prog 80 xY:=bW.of (mode := .clean) tok Ot mixed Try.func80 (by kernel_rfl) ⟨by kernel_rfl,by kernel_rfl⟩ (fun _=>aej (by kernel_rfl)) (fun x r h=>S7 x.1 x.2 r h)
noncomputable def jh:=fU (jg (de eL) (fQ (de eL))) (fun x:al×al=>bV x.1 x.2) (fun r:al =>.clean (.agg [.int .i64 r.ag,.sl false false r.aa.length (ae (eI .i64) r.aa)]))
theorem gm (p0_0:Int) (p0_1:(List Int)) (p1_0:Int) (p1_1:(List Int)):jh none [.agg [.int .i64 p0_0,.sl false false p0_1.length (ae (eI .i64) p0_1)],.agg [.int .i64 p1_0,.sl false false p1_1.length (ae (eI .i64) p1_1)]]=(bV (al.mk p0_0 p0_1) (al.mk p1_0 p1_1)).map fun r:al=>(.clean (.agg [.int .i64 r.ag,.sl false false r.aa.length (ae (eI .i64) r.aa)]),none):=aV _ _ _ ((al.mk p0_0 p0_1),(al.mk p1_0 p1_1))
noncomputable def nA:Env:=(Am.ext a6 80 false xY)
theorem DV:bC Try.prog nA:=(bC.none.add Pc false)
theorem IX:type_of% (ai @w<|ai @GB<|@nA.eq_1):=⟨@w,@GB,@nA.eq_1⟩
theorem Ib (p0:al) (p1:al) (r:al) (hh:bV p0 p1=some r):a7 .clean tab nA FU Try.f48 none [.agg [.int .i64 p0.ag,.sl false false p0.aa.length (ae (eI .i64) p0.aa)],.agg [.int .i64 p1.ag,.sl false false p1.aa.length (ae (eI .i64) p1.aa)]]=some (.clean (.agg [.int .i64 r.ag,.sl false false r.aa.length (ae (eI .i64) r.aa)]),none):=by
 refine aB rfl Try.ntmps48 Try.results48 ?_
 unfold bV at hh
 obtain⟨r1,hr1,hh⟩:=ah hh
 cases hh
 try simp only[IX,seval,hr1]
theorem mo:bW Try.prog 48 jh:=bW.of (mode := .clean) tok DV mixed Try.func48 (by kernel_rfl) ⟨by kernel_rfl,by kernel_rfl⟩ (fun _=>aej (by kernel_rfl)) (fun x r h=>Ib x.1 x.2 r h)
noncomputable def uf:=fU (jg (mX (eI .i64)) (fQ (mX (eI .i64)))) (fun x:(List Int)×(List Int)=>oV x.1 x.2) (fun r:(List Int) =>.clean (.sl false false r.length (ae (eI .i64) r)))
theorem qm (p0:(List Int)) (p1:(List Int)):uf none [.sl false false p0.length (ae (eI .i64) p0),.sl false false p1.length (ae (eI .i64) p1)]=(oV p0 p1).map fun r:(List Int)=>(.clean (.sl false false r.length (ae (eI .i64) r)),none):=aV _ _ _ (p0,p1)
noncomputable def uI:Env:=(Am.ext a6 102 false j9)
theorem Ov:bC Try.prog uI:=(bC.none.add mP false)
theorem cV:type_of% (ai @w<|ai @eV<|@uI.eq_1):=⟨@w,@eV,@uI.eq_1⟩
theorem S9 (p0:(List Int)) (p1:(List Int)) (r:(List Int)) (hh:oV p0 p1=some r):a7 .clean tab uI FU Try.f77 none [.sl false false p0.length (ae (eI .i64) p0),.sl false false p1.length (ae (eI .i64) p1)]=some (.clean (.sl false false r.length (ae (eI .i64) r)),none):=by
 refine aB rfl Try.ntmps77 Try.results77 ?_
 unfold oV at hh
 try simp only[cV,seval,-Int.reduceToNat]
 obtain⟨o1,ho1,hh⟩:=ah hh
 refine jW 0 (fun s t H e=>match s with|(s0j1,s1j1)=>t 0=.sl false false s0j1.length (ae (eI .i64) s0j1)∧t 1=.sl false false s1j1.length (ae (eI .i64) s1j1)) (fun s=>s=o1) ?_ ?_
 ·rintro⟨s0j1,s1j1⟩ t H e Zj1 rfl
  try dsimp only at hh
  obtain⟨x2,hx2,hh⟩:=ah hh
  obtain⟨q3a,q3b,q3c,q3d,q3e⟩:=mk_one (eI .i64) hx2
  simp only[bJ]at q3d
  try simp only[cV,seval,-Int.reduceToNat,Zj1,q3a,q3b,q3c,q3d,q3e]
  obtain⟨o13,ho13,hh⟩:=ah hh
  refine aA (fun s t H e=>match s with|(s6b,s22b,l5b)=>∃v5b:Nat,t 0=.sl false false s0j1.length (ae (eI .i64) s0j1)∧t 1=.sl false false s1j1.length (ae (eI .i64) s1j1)∧t 5=.buf 5 v5b 1 0 (l5b).length∧t 6=.int .i64 s6b∧t 20=.sl false false s0j1.length (ae (eI .i64) s0j1)∧t 21=.int .i64 (s0j1.length:Int)∧t 22=.int .i64 s22b∧H 5=some ⟨v5b,3,ae (eI .i64) l5b,false,true,false⟩) (fun o x t H e=>match o with|(s6bx,l5bx)=>x=.exit 0∧∃v5bx:Nat,t 0=.sl false false s0j1.length (ae (eI .i64) s0j1)∧t 5=.buf 5 v5bx 1 0 (l5bx).length∧t 6=.int .i64 s6bx∧H 5=some ⟨v5bx,3,ae (eI .i64) l5bx,false,true,false⟩) ho13 ?_ ?_ ?_
  ·refine⟨e,?_,?_,?_,?_,?_,?_,?_,?_⟩
   all_goals first|rfl|(simp only[cV,seval,-Int.reduceToNat,Zj1,q3a,q3b,q3c,q3d,q3e]<;>rfl)
  ·rintro⟨s6b,s22b,l5b⟩ t H e ⟨v5b,Zb⟩ c hh
   simp only[n8]at hh
   try simp only[cV,seval,-Int.reduceToNat,q3a,q3b,q3c,q3d,q3e,Zb]
   refine sp an hh (fun _ hh =>?_) (fun _ hh =>?_)
   ·obtain⟨x15,hx15,hh⟩:=ah hh
    have ax15:=bN (eI .i64) hx15
    simp only[bJ]at ax15
    try simp only[cV,seval,-Int.reduceToNat,q3a,q3b,q3c,q3d,q3e,Zb,ax15]
    obtain⟨o16,ho16,hh⟩:=ah hh
    refine jW 0 (fun s t H e=>match s with|s6j4=>∃v5j4:Nat,t 0=.sl false false s0j1.length (ae (eI .i64) s0j1)∧t 1=.sl false false s1j1.length (ae (eI .i64) s1j1)∧t 5=.buf 5 v5j4 1 0 (l5b).length∧t 6=.int .i64 s6j4∧t 7=.int .i64 s22b∧t 20=.sl false false s0j1.length (ae (eI .i64) s0j1)∧t 21=.int .i64 (s0j1.length:Int)∧t 22=.int .i64 s22b∧H 5=some ⟨v5j4,3,ae (eI .i64) l5b,false,true,false⟩) (fun s=>s=o16) ?_ ?_
    ·rintro s6j4 t H e ⟨v5j4,Zj4⟩ rfl
     try dsimp only at hh
     obtain⟨x17,hx17,hh⟩:=ah hh
     have ax17:=bN (eI .i64) hx17
     simp only[bJ]at ax17
     have p18:=eN (eI .i64) (x':=jK .and .i64 s6j4 1048575) (fo:=0) (cs:=[.int .i64 (jK .and .i64 s6j4 1048575)]) hx17 rfl (aej rfl)
     simp only[bJ,Nat.add_zero]at p18
     have up18:=p18
     simp only[putCells,List.length_cons,List.length_nil,adq,Nat.reduceAdd]at up18
     obtain⟨x19,hx19,hh⟩:=ah hh
     have q20:=sa hx19
     cases hh
     try simp only[cV,seval,-Int.reduceToNat,q3a,q3b,q3c,q3d,q3e,ax15,Zj4,ax17,p18,up18,q20]
     refine j5 ?_
     refine⟨v5j4,?_,?_,?_,?_,?_,?_,?_,?_⟩
     all_goals first|rfl|(simp only[cV,seval,-Int.reduceToNat,q3a,q3b,q3c,q3d,q3e,ax15,Zj4,ax17,p18,up18,q20]<;>rfl)
    ·clear hh
     have hh:=ho16
     try simp only[cV,seval,-Int.reduceToNat,q3a,q3b,q3c,q3d,q3e,Zb,ax15]
     refine sp an hh (fun _ hh =>?_) (fun _ hh =>?_)
     ·obtain⟨x22,hx22,hh⟩:=ah hh
      have ax22:=bN (eI .i64) hx22
      simp only[bJ]at ax22
      cases hh
      try simp only[cV,seval,-Int.reduceToNat,q3a,q3b,q3c,q3d,q3e,Zb,ax15,ax22]
      rw[au]
      refine⟨_,rfl,?_⟩
      refine⟨v5b,?_,?_,?_,?_,?_,?_,?_,?_,?_⟩
      all_goals first|rfl|(simp only[cV,seval,-Int.reduceToNat,q3a,q3b,q3c,q3d,q3e,Zb,ax15,ax22]<;>rfl)
     ·cases hh
      try simp only[cV,seval,-Int.reduceToNat,q3a,q3b,q3c,q3d,q3e,Zb,ax15]
      rw[au]
      refine⟨_,rfl,?_⟩
      refine⟨v5b,?_,?_,?_,?_,?_,?_,?_,?_,?_⟩
      all_goals first|rfl|(simp only[cV,seval,-Int.reduceToNat,q3a,q3b,q3c,q3d,q3e,Zb,ax15]<;>rfl)
   ·cases hh
    try simp only[cV,seval,-Int.reduceToNat,q3a,q3b,q3c,q3d,q3e,Zb]
    refine ll ?_
    refine⟨rfl,⟨v5b,?_,?_,?_,?_⟩⟩
    all_goals first|rfl|(simp only[cV,seval,-Int.reduceToNat,q3a,q3b,q3c,q3d,q3e,Zb]<;>rfl)
  ·rintro x t H e hx
   rcases o13 with⟨s6bx,l5bx⟩
   dsimp only at hx hh
   obtain⟨rfl,⟨v5bx,Zbx⟩⟩:=hx
   obtain⟨x23,hx23,hh⟩:=ah hh
   have ax23:=bN (eI .i64) hx23
   simp only[bJ]at ax23
   have p24:=eN (eI .i64) (x':=s6bx) (fo:=0) (cs:=[.int .i64 s6bx]) hx23 rfl (aej rfl)
   simp only[bJ,Nat.add_zero]at p24
   have up24:=p24
   simp only[putCells,List.length_cons,List.length_nil,adq,Nat.reduceAdd]at up24
   have i25:=eV (l5bx.set ((s0j1.length:Int)).toNat s6bx)
   simp only[aK,bJ,List.length_cons,List.length_nil,adq,Nat.reduceAdd,aeB]at i25
   obtain⟨r26,hr26,hh⟩:=ah hh
   cases hh
   try simp only[cV,seval,-Int.reduceToNat,q3a,q3b,q3c,q3d,q3e,Zbx,ax23,p24,up24,i25,hr26]
 ·clear hh
  have hh:=ho1
  try simp only[cV,seval,-Int.reduceToNat]
  refine sp an hh (fun _ hh =>?_) (fun _ hh =>?_)
  ·cases hh
   try simp only[cV,seval,-Int.reduceToNat]
   rw[au]
   refine⟨_,rfl,?_⟩
   refine⟨?_,?_⟩
   all_goals first|rfl|(simp only[cV,seval,-Int.reduceToNat]<;>rfl)
  ·cases hh
   try simp only[cV,seval,-Int.reduceToNat]
   rw[au]
   refine⟨_,rfl,?_⟩
   refine⟨?_,?_⟩
   all_goals first|rfl|(simp only[cV,seval,-Int.reduceToNat]<;>rfl)
theorem CP:bW Try.prog 77 uf:=bW.of (mode := .clean) tok Ov mixed Try.func77 (by kernel_rfl) ⟨by kernel_rfl,by kernel_rfl⟩ (fun _=>aej (by kernel_rfl)) (fun x r h=>S9 x.1 x.2 r h)
noncomputable def ui:=fU (jg (mX (eI .i64)) (fQ (mX (eI .i64)))) (fun x:(List Int)×(List Int)=>nt x.1 x.2) (fun r:(List Int) =>.clean (.sl false false r.length (ae (eI .i64) r)))
theorem u3 (p0:(List Int)) (p1:(List Int)):ui none [.sl false false p0.length (ae (eI .i64) p0),.sl false false p1.length (ae (eI .i64) p1)]=(nt p0 p1).map fun r:(List Int)=>(.clean (.sl false false r.length (ae (eI .i64) r)),none):=aV _ _ _ (p0,p1)
noncomputable def uL:Env:=(Am.ext (Am.ext a6 82 false gH) 102 false j9)
theorem Oy:bC Try.prog uL:=((bC.none.add j6 false).add mP false)
theorem eQ:type_of% (ai @w<|ai @eG<|ai @eV<|@uL.eq_1):=⟨@w,@eG,@eV,@uL.eq_1⟩
theorem Tc (p0:(List Int)) (p1:(List Int)) (r:(List Int)) (hh:nt p0 p1=some r):a7 .clean tab uL FU Try.f79 none [.sl false false p0.length (ae (eI .i64) p0),.sl false false p1.length (ae (eI .i64) p1)]=some (.clean (.sl false false r.length (ae (eI .i64) r)),none):=by
 refine aB rfl Try.ntmps79 Try.results79 ?_
 unfold nt at hh
 obtain⟨r1,hr1,hh⟩:=ah hh
 try simp only[eQ,seval,-Int.reduceToNat,hr1]
 obtain⟨o10,ho10,hh⟩:=ah hh
 refine aA (fun s t H e=>match s with|(s6a,s13a,l5a)=>∃v5a:Nat,t 1=.sl false false p1.length (ae (eI .i64) p1)∧t 5=.buf 5 v5a 1 0 (l5a).length∧t 6=.int .i64 s6a∧t 12=.int .i64 ((r1).length:Int)∧t 13=.int .i64 s13a∧H 5=some ⟨v5a,3,ae (eI .i64) l5a,false,true,false⟩) (fun o x t H e=>match o with|l5ax=>x=.exit 0∧∃v5ax:Nat,t 5=.buf 5 v5ax 1 0 (l5ax).length∧H 5=some ⟨v5ax,3,ae (eI .i64) l5ax,false,true,false⟩) ho10 ?_ ?_ ?_
 ·refine⟨1,?_,?_,?_,?_,?_,?_⟩
  all_goals first|rfl|(simp only[eQ,seval,-Int.reduceToNat,hr1]<;>rfl)
 ·rintro⟨s6a,s13a,l5a⟩ t H e ⟨v5a,Za⟩ c hh
  simp only[qT]at hh
  try simp only[eQ,seval,-Int.reduceToNat,hr1,Za]
  refine sp an hh (fun _ hh =>?_) (fun _ hh =>?_)
  ·obtain⟨x12,hx12,hh⟩:=ah hh
   have ax12:=bN (eI .i64) hx12
   simp only[bJ]at ax12
   try simp only[eQ,seval,-Int.reduceToNat,hr1,Za,ax12]
   obtain⟨o13,ho13,hh⟩:=ah hh
   refine jW 0 (fun s t H e=>match s with|s8j3=>∃v5j3:Nat,t 1=.sl false false p1.length (ae (eI .i64) p1)∧t 5=.buf 5 v5j3 1 0 (l5a).length∧t 7=.int .i64 s13a∧t 8=.int .i64 s8j3∧t 12=.int .i64 ((r1).length:Int)∧t 13=.int .i64 s13a∧H 5=some ⟨v5j3,3,ae (eI .i64) l5a,false,true,false⟩) (fun s=>s=o13) ?_ ?_
   ·rintro s8j3 t H e ⟨v5j3,Zj3⟩ rfl
    try dsimp only at hh
    obtain⟨x14,hx14,hh⟩:=ah hh
    have q15:=sa hx14
    have ax12:=bN (eI .i64) hx12
    simp only[bJ]at ax12
    have p16:=eN (eI .i64) (x':=jK .and .i64 s8j3 1048575) (fo:=0) (cs:=[.int .i64 (jK .and .i64 s8j3 1048575)]) hx12 rfl (aej rfl)
    simp only[bJ,Nat.add_zero]at p16
    have up16:=p16
    simp only[putCells,List.length_cons,List.length_nil,adq,Nat.reduceAdd]at up16
    cases hh
    try simp only[eQ,seval,-Int.reduceToNat,hr1,ax12,Zj3,q15,ax12,p16,up16]
    refine j5 ?_
    refine⟨v5j3,?_,?_,?_,?_,?_,?_⟩
    all_goals first|rfl|(simp only[eQ,seval,-Int.reduceToNat,hr1,ax12,Zj3,q15,ax12,p16,up16]<;>rfl)
   ·clear hh
    have hh:=ho13
    try simp only[eQ,seval,-Int.reduceToNat,hr1,Za,ax12]
    refine sp an hh (fun _ hh =>?_) (fun _ hh =>?_)
    ·obtain⟨x18,hx18,hh⟩:=ah hh
     have ax18:=bN (eI .i64) hx18
     simp only[bJ]at ax18
     cases hh
     try simp only[eQ,seval,-Int.reduceToNat,hr1,Za,ax12,ax18]
     rw[au]
     refine⟨_,rfl,?_⟩
     refine⟨v5a,?_,?_,?_,?_,?_,?_,?_⟩
     all_goals first|rfl|(simp only[eQ,seval,-Int.reduceToNat,hr1,Za,ax12,ax18]<;>rfl)
    ·cases hh
     try simp only[eQ,seval,-Int.reduceToNat,hr1,Za,ax12]
     rw[au]
     refine⟨_,rfl,?_⟩
     refine⟨v5a,?_,?_,?_,?_,?_,?_,?_⟩
     all_goals first|rfl|(simp only[eQ,seval,-Int.reduceToNat,hr1,Za,ax12]<;>rfl)
  ·cases hh
   try simp only[eQ,seval,-Int.reduceToNat,hr1,Za]
   refine ll ?_
   refine⟨rfl,⟨v5a,?_,?_⟩⟩
   all_goals first|rfl|(simp only[eQ,seval,-Int.reduceToNat,hr1,Za]<;>rfl)
 ·rintro x t H e hx
  obtain⟨l5ax,rfl⟩:∃z,z=o10:=⟨_,rfl⟩
  dsimp only at hx hh
  obtain⟨rfl,⟨v5ax,Zax⟩⟩:=hx
  obtain⟨r19,hr19,hh⟩:=ah hh
  cases hh
  try simp only[eQ,seval,-Int.reduceToNat,hr1,Zax,hr19]
theorem CS:bW Try.prog 79 ui:=bW.of (mode := .clean) tok Oy mixed Try.func79 (by kernel_rfl) ⟨by kernel_rfl,by kernel_rfl⟩ (fun _=>aej (by kernel_rfl)) (fun x r h=>Tc x.1 x.2 r h)
noncomputable def xV:=fU (jg (de eL) (fQ (de eL))) (fun x:al×al=>qJ x.1 x.2) (fun r:al×Int =>.clean (.tup [.agg [.int .i64 r.1.ag,.sl false false r.1.aa.length (ae (eI .i64) r.1.aa)],.int .i64 r.2]))
theorem Gy (p0_0:Int) (p0_1:(List Int)) (p1_0:Int) (p1_1:(List Int)):xV none [.agg [.int .i64 p0_0,.sl false false p0_1.length (ae (eI .i64) p0_1)],.agg [.int .i64 p1_0,.sl false false p1_1.length (ae (eI .i64) p1_1)]]=(qJ (al.mk p0_0 p0_1) (al.mk p1_0 p1_1)).map fun r:al×Int=>(.clean (.tup [.agg [.int .i64 r.1.ag,.sl false false r.1.aa.length (ae (eI .i64) r.1.aa)],.int .i64 r.2]),none):=aV _ _ _ ((al.mk p0_0 p0_1),(al.mk p1_0 p1_1))
noncomputable def uC:Env:=(Am.ext (Am.ext (Am.ext (Am.ext (Am.ext (Am.ext (Am.ext a6 50 false eC) 65 false wU) 75 false jH) 76 false fX) 77 false uf) 78 false jI) 79 false ui)
theorem Om:bC Try.prog uC:=(((((((bC.none.add fe false).add Gq false).add oG false).add iB false).add CP false).add oH false).add CS false)
theorem dZ:type_of% (ai @w<|ai @cj<|ai @qn<|ai @ez<|ai @dy<|ai @qm<|ai @iC<|ai @u3<|@uC.eq_1):=⟨@w,@cj,@qn,@ez,@dy,@qm,@iC,@u3,@uC.eq_1⟩
theorem S3 (p0:al) (p1:al) (r:al×Int) (hh:qJ p0 p1=some r):a7 .clean tab uC FU Try.f47 none [.agg [.int .i64 p0.ag,.sl false false p0.aa.length (ae (eI .i64) p0.aa)],.agg [.int .i64 p1.ag,.sl false false p1.aa.length (ae (eI .i64) p1.aa)]]=some (.clean (.tup [.agg [.int .i64 r.1.ag,.sl false false r.1.aa.length (ae (eI .i64) r.1.aa)],.int .i64 r.2]),none):=by
 refine aB rfl Try.ntmps47 Try.results47 ?_
 unfold qJ at hh
 obtain⟨r1,hr1,hh⟩:=ah hh
 try simp only[dZ,seval,hr1]
 obtain⟨o2,ho2,hh⟩:=ah hh
 refine bS 0 (fun s t H e=>match s with|s13j1=>∃v2j1:Nat,∃v3j1:Nat,∃v4j1:Nat,t 2=.ptr 2 v2j1 0∧t 3=.ptr 3 v3j1 0∧t 4=.ptr 4 v4j1 0∧t 13=.bool s13j1∧H 2=some ⟨v2j1,39,[.int .i64 p0.ag,.sl false false p0.aa.length (ae (eI .i64) p0.aa)],false,false,false⟩∧H 3=some ⟨v3j1,39,[.int .i64 p1.ag,.sl false false p1.aa.length (ae (eI .i64) p1.aa)],false,false,false⟩∧H 4=some ⟨v4j1,39,[.int .i64 0,.sl true true 0 []],false,false,false⟩) (fun s=>s=o2) ?_ ?_
 ·rintro s13j1 t H e ⟨v2j1,v3j1,v4j1,Zj1⟩ rfl
  try dsimp only at hh
  try simp only[dZ,seval,hr1,Zj1]
  refine sp an hh (fun _ hh =>?_) (fun _ hh =>?_)
  ·have i4:=ez false 0 ([])
   simp only[aK,bJ,List.length_cons,List.length_nil,adq,Nat.reduceAdd,aeB]at i4
   obtain⟨r5,hr5,hh⟩:=ah hh
   cases hh
   try simp only[dZ,seval,hr1,Zj1,i4,hr5]
  ·try simp only[dZ,seval,hr1,Zj1]
   refine sp an hh (fun _ hh =>?_) (fun _ hh =>?_)
   ·have i7:=qn ([p0.ag,p1.ag])
    simp only[aK,bJ,List.length_cons,List.length_nil,adq,Nat.reduceAdd,aeB]at i7
    obtain⟨r8,hr8,hh⟩:=ah hh
    obtain⟨r9,hr9,hh⟩:=ah hh
    obtain⟨r10,hr10,hh⟩:=ah hh
    obtain⟨r11,hr11,hh⟩:=ah hh
    try simp only[dZ,seval,hr1,Zj1,i7,hr8,hr9,hr10,hr11]
    refine bo (by kernel_rfl) ?_
    cases hh
    try simp only[dZ,seval,hr1,Zj1,i7,hr8,hr9,hr10,hr11]
   ·obtain⟨r12,hr12,hh⟩:=ah hh
    try simp only[dZ,seval,hr1,Zj1,hr12]
    refine sp an hh (fun _ hh =>?_) (fun _ hh =>?_)
    ·obtain⟨r14,hr14,hh⟩:=ah hh
     obtain⟨r15,hr15,hh⟩:=ah hh
     obtain⟨r16,hr16,hh⟩:=ah hh
     try simp only[dZ,seval,hr1,Zj1,hr12,hr14,hr15,hr16]
     refine bo (by kernel_rfl) ?_
     cases hh
     try simp only[dZ,seval,hr1,Zj1,hr12,hr14,hr15,hr16]
    ·obtain⟨r17,hr17,hh⟩:=ah hh
     obtain⟨r18,hr18,hh⟩:=ah hh
     obtain⟨r19,hr19,hh⟩:=ah hh
     try simp only[dZ,seval,hr1,Zj1,hr12,hr17,hr18,hr19]
     refine bo (by kernel_rfl) ?_
     cases hh
     try simp only[dZ,seval,hr1,Zj1,hr12,hr17,hr18,hr19]
 ·clear hh
  have hh:=ho2
  try simp only[dZ,seval,hr1]
  refine sp bB hh (fun _ hh =>?_) (fun _ hh =>?_)
  ·cases hh
   try simp only[dZ,seval,hr1]
   rw[au]
   refine⟨_,rfl,?_⟩
   refine⟨0,0,0,?_,?_,?_,?_,?_,?_,?_⟩
   all_goals first|rfl|(simp only[dZ,seval,hr1]<;>rfl)
  ·obtain⟨r21,hr21,hh⟩:=ah hh
   cases hh
   try simp only[dZ,seval,hr1,hr21]
   rw[au]
   refine⟨_,rfl,?_⟩
   refine⟨0,0,0,?_,?_,?_,?_,?_,?_,?_⟩
   all_goals first|rfl|(simp only[dZ,seval,hr1,hr21]<;>rfl)
theorem O8:bW Try.prog 47 xV:=bW.of (mode := .clean) tok Om mixed Try.func47 (by kernel_rfl) ⟨by kernel_rfl,by kernel_rfl⟩ (fun _=>aej (by kernel_rfl)) (fun x r h=>S3 x.1 x.2 r h)
noncomputable def xW:=fU (jg (de eL) (fQ (de eL))) (fun x:al×al=>mf x.1 x.2) (fun r:al×al×Int =>.clean (.tup [.agg [.int .i64 r.1.ag,.sl false false r.1.aa.length (ae (eI .i64) r.1.aa)],.agg [.int .i64 r.2.1.ag,.sl false false r.2.1.aa.length (ae (eI .i64) r.2.1.aa)],.int .i64 r.2.2]))
theorem Gz (p0_0:Int) (p0_1:(List Int)) (p1_0:Int) (p1_1:(List Int)):xW none [.agg [.int .i64 p0_0,.sl false false p0_1.length (ae (eI .i64) p0_1)],.agg [.int .i64 p1_0,.sl false false p1_1.length (ae (eI .i64) p1_1)]]=(mf (al.mk p0_0 p0_1) (al.mk p1_0 p1_1)).map fun r:al×al×Int=>(.clean (.tup [.agg [.int .i64 r.1.ag,.sl false false r.1.aa.length (ae (eI .i64) r.1.aa)],.agg [.int .i64 r.2.1.ag,.sl false false r.2.1.aa.length (ae (eI .i64) r.2.1.aa)],.int .i64 r.2.2]),none):=aV _ _ _ ((al.mk p0_0 p0_1),(al.mk p1_0 p1_1))
noncomputable def uD:Env:=(Am.ext (Am.ext (Am.ext (Am.ext (Am.ext a6 50 false eC) 76 false fX) 77 false uf) 79 false ui) 83 false ug)
theorem On:bC Try.prog uD:=(((((bC.none.add fe false).add iB false).add CP false).add CS false).add CQ false)
theorem cJ:type_of% (ai @w<|ai @cj<|ai @dy<|ai @qm<|ai @u3<|ai @uZ<|@uD.eq_1):=⟨@w,@cj,@dy,@qm,@u3,@uZ,@uD.eq_1⟩
theorem S4 (p0:al) (p1:al) (r:al×al×Int) (hh:mf p0 p1=some r):a7 .clean tab uD FU Try.f81 none [.agg [.int .i64 p0.ag,.sl false false p0.aa.length (ae (eI .i64) p0.aa)],.agg [.int .i64 p1.ag,.sl false false p1.aa.length (ae (eI .i64) p1.aa)]]=some (.clean (.tup [.agg [.int .i64 r.1.ag,.sl false false r.1.aa.length (ae (eI .i64) r.1.aa)],.agg [.int .i64 r.2.1.ag,.sl false false r.2.1.aa.length (ae (eI .i64) r.2.1.aa)],.int .i64 r.2.2]),none):=by
 refine aB rfl Try.ntmps81 Try.results81 ?_
 unfold mf at hh
 obtain⟨r1,hr1,hh⟩:=ah hh
 try simp only[cJ,seval,hr1]
 obtain⟨o2,ho2,hh⟩:=ah hh
 refine bS 0 (fun s t H e=>match s with|s9j1=>∃v2j1:Nat,∃v3j1:Nat,∃v4j1:Nat,∃v5j1:Nat,t 2=.ptr 2 v2j1 0∧t 3=.ptr 3 v3j1 0∧t 4=.ptr 4 v4j1 0∧t 5=.ptr 5 v5j1 0∧t 9=.bool s9j1∧H 2=some ⟨v2j1,39,[.int .i64 p0.ag,.sl false false p0.aa.length (ae (eI .i64) p0.aa)],false,false,false⟩∧H 3=some ⟨v3j1,39,[.int .i64 p1.ag,.sl false false p1.aa.length (ae (eI .i64) p1.aa)],false,false,false⟩∧H 4=some ⟨v4j1,39,[.int .i64 0,.sl true true 0 []],false,false,false⟩∧H 5=some ⟨v5j1,39,[.int .i64 0,.sl true true 0 []],false,false,false⟩) (fun s=>s=o2) ?_ ?_
 ·rintro s9j1 t H e ⟨v2j1,v3j1,v4j1,v5j1,Zj1⟩ rfl
  try dsimp only at hh
  try simp only[cJ,seval,hr1,Zj1]
  refine sp an hh (fun _ hh =>?_) (fun _ hh =>?_)
  ·cases hh
   try simp only[cJ,seval,hr1,Zj1]
  ·try simp only[cJ,seval,hr1,Zj1]
   refine sp an hh (fun _ hh =>?_) (fun _ hh =>?_)
   ·cases hh
    try simp only[cJ,seval,hr1,Zj1]
   ·obtain⟨r5,hr5,hh⟩:=ah hh
    try simp only[cJ,seval,hr1,Zj1,hr5]
    obtain⟨o6,ho6,hh⟩:=ah hh
    refine bS 0 (fun s t H e=>match s with|s44j2=>∃v2j2:Nat,∃v3j2:Nat,∃v4j2:Nat,∃v5j2:Nat,t 2=.ptr 2 v2j2 0∧t 3=.ptr 3 v3j2 0∧t 4=.ptr 4 v4j2 0∧t 5=.ptr 5 v5j2 0∧t 7=.sl false false r5.1.length (ae (eI .i64) r5.1)∧t 8=.sl false false r5.2.length (ae (eI .i64) r5.2)∧t 44=.bool s44j2∧H 2=some ⟨v2j2,39,[.int .i64 p0.ag,.sl false false p0.aa.length (ae (eI .i64) p0.aa)],false,false,false⟩∧H 3=some ⟨v3j2,39,[.int .i64 p1.ag,.sl false false p1.aa.length (ae (eI .i64) p1.aa)],false,false,false⟩∧H 4=some ⟨v4j2,39,[.int .i64 0,.sl true true 0 []],false,false,false⟩∧H 5=some ⟨v5j2,39,[.int .i64 0,.sl true true 0 []],false,false,false⟩) (fun s=>s=o6) ?_ ?_
    ·rintro s44j2 t H e ⟨v2j2,v3j2,v4j2,v5j2,Zj2⟩ rfl
     try dsimp only at hh
     try simp only[cJ,seval,hr1,hr5,Zj2]
     refine sp an hh (fun _ hh =>?_) (fun _ hh =>?_)
     ·have i8:=qm r5.1 ([1])
      simp only[aK,bJ,List.length_cons,List.length_nil,adq,Nat.reduceAdd,aeB]at i8
      obtain⟨r9,hr9,hh⟩:=ah hh
      obtain⟨r10,hr10,hh⟩:=ah hh
      obtain⟨r11,hr11,hh⟩:=ah hh
      obtain⟨r12,hr12,hh⟩:=ah hh
      try simp only[cJ,seval,hr1,hr5,Zj2,i8,hr9,hr10,hr11,hr12]
      refine bo (by kernel_rfl) ?_
      cases hh
      try simp only[cJ,seval,hr1,hr5,Zj2,i8,hr9,hr10,hr11,hr12]
     ·obtain⟨r13,hr13,hh⟩:=ah hh
      obtain⟨r14,hr14,hh⟩:=ah hh
      try simp only[cJ,seval,hr1,hr5,Zj2,hr13,hr14]
      refine bo (by kernel_rfl) ?_
      cases hh
      try simp only[cJ,seval,hr1,hr5,Zj2,hr13,hr14]
    ·clear hh
     have hh:=ho6
     try simp only[cJ,seval,hr1,Zj1,hr5]
     refine sp dW hh (fun _ hh =>?_) (fun _ hh =>?_)
     ·cases hh
      try simp only[cJ,seval,hr1,Zj1,hr5]
      rw[au]
      refine⟨_,rfl,?_⟩
      refine⟨v2j1,v3j1,v4j1,v5j1,?_,?_,?_,?_,?_,?_,?_,?_,?_,?_,?_⟩
      all_goals first|rfl|(simp only[cJ,seval,hr1,Zj1,hr5]<;>rfl)
     ·cases hh
      try simp only[cJ,seval,hr1,Zj1,hr5]
      rw[au]
      refine⟨_,rfl,?_⟩
      refine⟨v2j1,v3j1,v4j1,v5j1,?_,?_,?_,?_,?_,?_,?_,?_,?_,?_,?_⟩
      all_goals first|rfl|(simp only[cJ,seval,hr1,Zj1,hr5]<;>rfl)
 ·clear hh
  have hh:=ho2
  try simp only[cJ,seval,hr1]
  refine sp bB hh (fun _ hh =>?_) (fun _ hh =>?_)
  ·cases hh
   try simp only[cJ,seval,hr1]
   rw[au]
   refine⟨_,rfl,?_⟩
   refine⟨0,0,0,0,?_,?_,?_,?_,?_,?_,?_,?_,?_⟩
   all_goals first|rfl|(simp only[cJ,seval,hr1]<;>rfl)
  ·obtain⟨r17,hr17,hh⟩:=ah hh
   cases hh
   try simp only[cJ,seval,hr1,hr17]
   rw[au]
   refine⟨_,rfl,?_⟩
   refine⟨0,0,0,0,?_,?_,?_,?_,?_,?_,?_,?_,?_⟩
   all_goals first|rfl|(simp only[cJ,seval,hr1,hr17]<;>rfl)
theorem O9:bW Try.prog 81 xW:=bW.of (mode := .clean) tok On mixed Try.func81 (by kernel_rfl) ⟨by kernel_rfl,by kernel_rfl⟩ (fun _=>aej (by kernel_rfl)) (fun x r h=>S4 x.1 x.2 r h)
noncomputable def nZ:=fU (jg (de eL) (fQ (de eL))) (fun x:al×al=>lf x.1 x.2) (fun r:ak×Int =>.clean (.tup [.agg [.int .i64 r.1.aH.ag,.sl false false r.1.aH.aa.length (ae (eI .i64) r.1.aH.aa),.int .i64 r.1.aJ.ag,.sl false false r.1.aJ.aa.length (ae (eI .i64) r.1.aJ.aa)],.int .i64 r.2]))
theorem l6 (p0_0:Int) (p0_1:(List Int)) (p1_0:Int) (p1_1:(List Int)):nZ none [.agg [.int .i64 p0_0,.sl false false p0_1.length (ae (eI .i64) p0_1)],.agg [.int .i64 p1_0,.sl false false p1_1.length (ae (eI .i64) p1_1)]]=(lf (al.mk p0_0 p0_1) (al.mk p1_0 p1_1)).map fun r:ak×Int=>(.clean (.tup [.agg [.int .i64 r.1.aH.ag,.sl false false r.1.aH.aa.length (ae (eI .i64) r.1.aH.aa),.int .i64 r.1.aJ.ag,.sl false false r.1.aJ.aa.length (ae (eI .i64) r.1.aJ.aa)],.int .i64 r.2]),none):=aV _ _ _ ((al.mk p0_0 p0_1),(al.mk p1_0 p1_1))
noncomputable def rj:Env:=(Am.ext (Am.ext (Am.ext (Am.ext a6 50 false eC) 51 false ud) 64 false ue) 81 false xW)
theorem KG:bC Try.prog rj:=((((bC.none.add fe false).add CN false).add CO false).add O9 false)
theorem cN:type_of% (ai @w<|ai @cj<|ai @uX<|ai @uY<|ai @Gz<|@rj.eq_1):=⟨@w,@cj,@uX,@uY,@Gz,@rj.eq_1⟩
theorem OR (p0:al) (p1:al) (r:ak×Int) (hh:lf p0 p1=some r):a7 .clean tab rj FU Try.f49 none [.agg [.int .i64 p0.ag,.sl false false p0.aa.length (ae (eI .i64) p0.aa)],.agg [.int .i64 p1.ag,.sl false false p1.aa.length (ae (eI .i64) p1.aa)]]=some (.clean (.tup [.agg [.int .i64 r.1.aH.ag,.sl false false r.1.aH.aa.length (ae (eI .i64) r.1.aH.aa),.int .i64 r.1.aJ.ag,.sl false false r.1.aJ.aa.length (ae (eI .i64) r.1.aJ.aa)],.int .i64 r.2]),none):=by
 refine aB rfl Try.ntmps49 Try.results49 ?_
 unfold lf at hh
 obtain⟨r1,hr1,hh⟩:=ah hh
 try simp only[cN,seval,hr1]
 obtain⟨o2,ho2,hh⟩:=ah hh
 refine bS 0 (fun s t H e=>match s with|s14j1=>∃v2j1:Nat,∃v3j1:Nat,∃v4j1:Nat,t 2=.ptr 2 v2j1 0∧t 3=.ptr 3 v3j1 0∧t 4=.ptr 4 v4j1 0∧t 14=.bool s14j1∧H 2=some ⟨v2j1,39,[.int .i64 p0.ag,.sl false false p0.aa.length (ae (eI .i64) p0.aa)],false,false,false⟩∧H 3=some ⟨v3j1,39,[.int .i64 p1.ag,.sl false false p1.aa.length (ae (eI .i64) p1.aa)],false,false,false⟩∧H 4=some ⟨v4j1,41,[.int .i64 0,.sl true true 0 [],.int .i64 0,.sl true true 0 []],false,false,false⟩) (fun s=>s=o2) ?_ ?_
 ·rintro s14j1 t H e ⟨v2j1,v3j1,v4j1,Zj1⟩ rfl
  try dsimp only at hh
  try simp only[cN,seval,hr1,Zj1]
  refine sp an hh (fun _ hh =>?_) (fun _ hh =>?_)
  ·cases hh
   try simp only[cN,seval,hr1,Zj1]
  ·try simp only[cN,seval,hr1,Zj1]
   refine sp an hh (fun _ hh =>?_) (fun _ hh =>?_)
   ·cases hh
    try simp only[cN,seval,hr1,Zj1]
   ·try simp only[cN,seval,hr1,Zj1]
    obtain⟨o5,ho5,hh⟩:=ah hh
    refine jW 0 (fun s t H e=>match s with|(r2_0j2,r2_1j2,r3_0j2,r3_1j2)=>∃v2j2:Nat,∃v3j2:Nat,∃v4j2:Nat,t 2=.ptr 2 v2j2 0∧t 3=.ptr 3 v3j2 0∧t 4=.ptr 4 v4j2 0∧H 2=some ⟨v2j2,39,[.int .i64 r2_0j2,.sl false false r2_1j2.length (ae (eI .i64) r2_1j2)],false,false,false⟩∧H 3=some ⟨v3j2,39,[.int .i64 r3_0j2,.sl false false r3_1j2.length (ae (eI .i64) r3_1j2)],false,false,false⟩∧H 4=some ⟨v4j2,41,[.int .i64 0,.sl true true 0 [],.int .i64 0,.sl true true 0 []],false,false,false⟩) (fun s=>s=o5) ?_ ?_
    ·rintro⟨r2_0j2,r2_1j2,r3_0j2,r3_1j2⟩ t H e ⟨v2j2,v3j2,v4j2,Zj2⟩ rfl
     try dsimp only at hh
     obtain⟨r6,hr6,hh⟩:=ah hh
     obtain⟨r7,hr7,hh⟩:=ah hh
     obtain⟨r8,hr8,hh⟩:=ah hh
     cases hh
     try simp only[cN,seval,hr1,Zj2,hr6,hr7,hr8]
    ·clear hh
     have hh:=ho5
     try simp only[cN,seval,hr1,Zj1]
     refine sp an hh (fun _ hh =>?_) (fun _ hh =>?_)
     ·obtain⟨r10,hr10,hh⟩:=ah hh
      obtain⟨r11,hr11,hh⟩:=ah hh
      try simp only[cN,seval,hr1,Zj1,hr10,hr11]
      refine bo (by kernel_rfl) ?_
      cases hh
      try simp only[cN,seval,hr1,Zj1,hr10,hr11]
      rw[au]
      refine⟨_,rfl,?_⟩
      refine⟨v2j1,v3j1,v4j1,?_,?_,?_,?_,?_,?_⟩
      all_goals first|rfl|(simp only[cN,seval,hr1,Zj1,hr10,hr11]<;>rfl)
     ·cases hh
      try simp only[cN,seval,hr1,Zj1]
      rw[au]
      refine⟨_,rfl,?_⟩
      refine⟨v2j1,v3j1,v4j1,?_,?_,?_,?_,?_,?_⟩
      all_goals first|rfl|(simp only[cN,seval,hr1,Zj1]<;>rfl)
 ·clear hh
  have hh:=ho2
  try simp only[cN,seval,hr1]
  refine sp bB hh (fun _ hh =>?_) (fun _ hh =>?_)
  ·cases hh
   try simp only[cN,seval,hr1]
   rw[au]
   refine⟨_,rfl,?_⟩
   refine⟨0,0,0,?_,?_,?_,?_,?_,?_,?_⟩
   all_goals first|rfl|(simp only[cN,seval,hr1]<;>rfl)
  ·obtain⟨r13,hr13,hh⟩:=ah hh
   cases hh
   try simp only[cN,seval,hr1,hr13]
   rw[au]
   refine⟨_,rfl,?_⟩
   refine⟨0,0,0,?_,?_,?_,?_,?_,?_,?_⟩
   all_goals first|rfl|(simp only[cN,seval,hr1,hr13]<;>rfl)
theorem tG:bW Try.prog 49 nZ:=bW.of (mode := .clean) tok KG mixed Try.func49 (by kernel_rfl) ⟨by kernel_rfl,by kernel_rfl⟩ (fun _=>aej (by kernel_rfl)) (fun x r h=>OR x.1 x.2 r h)
noncomputable def nX:=fU (jg (de ay) (fQ (de ay))) (fun x:ak×ak=>jL x.1 x.2) (fun r:ak×Int =>.clean (.tup [.agg [.int .i64 r.1.aH.ag,.sl false false r.1.aH.aa.length (ae (eI .i64) r.1.aH.aa),.int .i64 r.1.aJ.ag,.sl false false r.1.aJ.aa.length (ae (eI .i64) r.1.aJ.aa)],.int .i64 r.2]))
theorem l5 (p0_0:Int) (p0_1:(List Int)) (p0_2:Int) (p0_3:(List Int)) (p1_0:Int) (p1_1:(List Int)) (p1_2:Int) (p1_3:(List Int)):nX none [.agg [.int .i64 p0_0,.sl false false p0_1.length (ae (eI .i64) p0_1),.int .i64 p0_2,.sl false false p0_3.length (ae (eI .i64) p0_3)],.agg [.int .i64 p1_0,.sl false false p1_1.length (ae (eI .i64) p1_1),.int .i64 p1_2,.sl false false p1_3.length (ae (eI .i64) p1_3)]]=(jL (ak.mk (al.mk p0_0 p0_1) (al.mk p0_2 p0_3)) (ak.mk (al.mk p1_0 p1_1) (al.mk p1_2 p1_3))).map fun r:ak×Int=>(.clean (.tup [.agg [.int .i64 r.1.aH.ag,.sl false false r.1.aH.aa.length (ae (eI .i64) r.1.aH.aa),.int .i64 r.1.aJ.ag,.sl false false r.1.aJ.aa.length (ae (eI .i64) r.1.aJ.aa)],.int .i64 r.2]),none):=aV _ _ _ ((ak.mk (al.mk p0_0 p0_1) (al.mk p0_2 p0_3)),(ak.mk (al.mk p1_0 p1_1) (al.mk p1_2 p1_3)))
noncomputable def re:Env:=(Am.ext (Am.ext (Am.ext (Am.ext a6 22 false ew) 47 false xV) 48 false jh) 49 false nZ)
theorem KC:bC Try.prog re:=((((bC.none.add fi false).add O8 false).add mo false).add tG false)
theorem fI:type_of% (ai @w<|ai @cl<|ai @Gy<|ai @gm<|ai @l6<|@re.eq_1):=⟨@w,@cl,@Gy,@gm,@l6,@re.eq_1⟩
theorem ON (p0:ak) (p1:ak) (r:ak×Int) (hh:jL p0 p1=some r):a7 .clean tab re FU Try.f18 none [.agg [.int .i64 p0.aH.ag,.sl false false p0.aH.aa.length (ae (eI .i64) p0.aH.aa),.int .i64 p0.aJ.ag,.sl false false p0.aJ.aa.length (ae (eI .i64) p0.aJ.aa)],.agg [.int .i64 p1.aH.ag,.sl false false p1.aH.aa.length (ae (eI .i64) p1.aH.aa),.int .i64 p1.aJ.ag,.sl false false p1.aJ.aa.length (ae (eI .i64) p1.aJ.aa)]]=some (.clean (.tup [.agg [.int .i64 r.1.aH.ag,.sl false false r.1.aH.aa.length (ae (eI .i64) r.1.aH.aa),.int .i64 r.1.aJ.ag,.sl false false r.1.aJ.aa.length (ae (eI .i64) r.1.aJ.aa)],.int .i64 r.2]),none):=by
 refine aB rfl Try.ntmps18 Try.results18 ?_
 unfold jL at hh
 obtain⟨r1,hr1,hh⟩:=ah hh
 try simp only[fI,seval,hr1]
 obtain⟨o2,ho2,hh⟩:=ah hh
 refine bS 0 (fun s t H e=>match s with|s15j1=>∃v2j1:Nat,∃v3j1:Nat,∃v4j1:Nat,t 2=.ptr 2 v2j1 0∧t 3=.ptr 3 v3j1 0∧t 4=.ptr 4 v4j1 0∧t 15=.bool s15j1∧H 2=some ⟨v2j1,41,[.int .i64 p0.aH.ag,.sl false false p0.aH.aa.length (ae (eI .i64) p0.aH.aa),.int .i64 p0.aJ.ag,.sl false false p0.aJ.aa.length (ae (eI .i64) p0.aJ.aa)],false,false,false⟩∧H 3=some ⟨v3j1,41,[.int .i64 p1.aH.ag,.sl false false p1.aH.aa.length (ae (eI .i64) p1.aH.aa),.int .i64 p1.aJ.ag,.sl false false p1.aJ.aa.length (ae (eI .i64) p1.aJ.aa)],false,false,false⟩∧H 4=some ⟨v4j1,41,[.int .i64 0,.sl true true 0 [],.int .i64 0,.sl true true 0 []],false,false,false⟩) (fun s=>s=o2) ?_ ?_
 ·rintro s15j1 t H e ⟨v2j1,v3j1,v4j1,Zj1⟩ rfl
  try dsimp only at hh
  try simp only[fI,seval,hr1,Zj1]
  refine sp an hh (fun _ hh =>?_) (fun _ hh =>?_)
  ·cases hh
   try simp only[fI,seval,hr1,Zj1]
  ·obtain⟨r4,hr4,hh⟩:=ah hh
   obtain⟨r5,hr5,hh⟩:=ah hh
   obtain⟨r6,hr6,hh⟩:=ah hh
   try simp only[fI,seval,hr1,Zj1,hr4,hr5,hr6]
   refine bo (by kernel_rfl) ?_
   obtain⟨r7,hr7,hh⟩:=ah hh
   obtain⟨r8,hr8,hh⟩:=ah hh
   try simp only[fI,seval,hr1,Zj1,hr4,hr5,hr6,hr7,hr8]
   refine bo (by kernel_rfl) ?_
   cases hh
   try simp only[fI,seval,hr1,Zj1,hr4,hr5,hr6,hr7,hr8]
 ·clear hh
  have hh:=ho2
  try simp only[fI,seval,hr1]
  refine sp bB hh (fun _ hh =>?_) (fun _ hh =>?_)
  ·cases hh
   try simp only[fI,seval,hr1]
   rw[au]
   refine⟨_,rfl,?_⟩
   refine⟨0,0,0,?_,?_,?_,?_,?_,?_,?_⟩
   all_goals first|rfl|(simp only[fI,seval,hr1]<;>rfl)
  ·obtain⟨r10,hr10,hh⟩:=ah hh
   cases hh
   try simp only[fI,seval,hr1,hr10]
   rw[au]
   refine⟨_,rfl,?_⟩
   refine⟨0,0,0,?_,?_,?_,?_,?_,?_,?_⟩
   all_goals first|rfl|(simp only[fI,seval,hr1,hr10]<;>rfl)
theorem tF:bW Try.prog 18 nX:=bW.of (mode := .clean) tok KC mixed Try.func18 (by kernel_rfl) ⟨by kernel_rfl,by kernel_rfl⟩ (fun _=>aej (by kernel_rfl)) (fun x r h=>ON x.1 x.2 r h)
noncomputable def qA:=fU (jg (de ay) (fQ (de ay))) (fun x:ak×ak=>mG x.1 x.2) (fun r:ak×Int =>.clean (.tup [.agg [.int .i64 r.1.aH.ag,.sl false false r.1.aH.aa.length (ae (eI .i64) r.1.aH.aa),.int .i64 r.1.aJ.ag,.sl false false r.1.aJ.aa.length (ae (eI .i64) r.1.aJ.aa)],.int .i64 r.2]))
theorem rO (p0_0:Int) (p0_1:(List Int)) (p0_2:Int) (p0_3:(List Int)) (p1_0:Int) (p1_1:(List Int)) (p1_2:Int) (p1_3:(List Int)):qA none [.agg [.int .i64 p0_0,.sl false false p0_1.length (ae (eI .i64) p0_1),.int .i64 p0_2,.sl false false p0_3.length (ae (eI .i64) p0_3)],.agg [.int .i64 p1_0,.sl false false p1_1.length (ae (eI .i64) p1_1),.int .i64 p1_2,.sl false false p1_3.length (ae (eI .i64) p1_3)]]=(mG (ak.mk (al.mk p0_0 p0_1) (al.mk p0_2 p0_3)) (ak.mk (al.mk p1_0 p1_1) (al.mk p1_2 p1_3))).map fun r:ak×Int=>(.clean (.tup [.agg [.int .i64 r.1.aH.ag,.sl false false r.1.aH.aa.length (ae (eI .i64) r.1.aH.aa),.int .i64 r.1.aJ.ag,.sl false false r.1.aJ.aa.length (ae (eI .i64) r.1.aJ.aa)],.int .i64 r.2]),none):=aV _ _ _ ((ak.mk (al.mk p0_0 p0_1) (al.mk p0_2 p0_3)),(ak.mk (al.mk p1_0 p1_1) (al.mk p1_2 p1_3)))
noncomputable def rl:Env:=(Am.ext (Am.ext (Am.ext a6 18 false nX) 22 false ew) 64 false ue)
theorem KH:bC Try.prog rl:=(((bC.none.add tF false).add fi false).add CO false)
theorem gA:type_of% (ai @w<|ai @l5<|ai @cl<|ai @uY<|@rl.eq_1):=⟨@w,@l5,@cl,@uY,@rl.eq_1⟩
theorem OS (p0:ak) (p1:ak) (r:ak×Int) (hh:mG p0 p1=some r):a7 .clean tab rl FU Try.f30 none [.agg [.int .i64 p0.aH.ag,.sl false false p0.aH.aa.length (ae (eI .i64) p0.aH.aa),.int .i64 p0.aJ.ag,.sl false false p0.aJ.aa.length (ae (eI .i64) p0.aJ.aa)],.agg [.int .i64 p1.aH.ag,.sl false false p1.aH.aa.length (ae (eI .i64) p1.aH.aa),.int .i64 p1.aJ.ag,.sl false false p1.aJ.aa.length (ae (eI .i64) p1.aJ.aa)]]=some (.clean (.tup [.agg [.int .i64 r.1.aH.ag,.sl false false r.1.aH.aa.length (ae (eI .i64) r.1.aH.aa),.int .i64 r.1.aJ.ag,.sl false false r.1.aJ.aa.length (ae (eI .i64) r.1.aJ.aa)],.int .i64 r.2]),none):=by
 refine aB rfl Try.ntmps30 Try.results30 ?_
 unfold mG at hh
 obtain⟨r1,hr1,hh⟩:=ah hh
 try simp only[gA,seval,hr1]
 obtain⟨o2,ho2,hh⟩:=ah hh
 refine bS 0 (fun s t H e=>match s with|s13j1=>∃v2j1:Nat,∃v3j1:Nat,∃v4j1:Nat,t 2=.ptr 2 v2j1 0∧t 3=.ptr 3 v3j1 0∧t 4=.ptr 4 v4j1 0∧t 13=.bool s13j1∧H 2=some ⟨v2j1,41,[.int .i64 p0.aH.ag,.sl false false p0.aH.aa.length (ae (eI .i64) p0.aH.aa),.int .i64 p0.aJ.ag,.sl false false p0.aJ.aa.length (ae (eI .i64) p0.aJ.aa)],false,false,false⟩∧H 3=some ⟨v3j1,41,[.int .i64 p1.aH.ag,.sl false false p1.aH.aa.length (ae (eI .i64) p1.aH.aa),.int .i64 p1.aJ.ag,.sl false false p1.aJ.aa.length (ae (eI .i64) p1.aJ.aa)],false,false,false⟩∧H 4=some ⟨v4j1,41,[.int .i64 0,.sl true true 0 [],.int .i64 0,.sl true true 0 []],false,false,false⟩) (fun s=>s=o2) ?_ ?_
 ·rintro s13j1 t H e ⟨v2j1,v3j1,v4j1,Zj1⟩ rfl
  try dsimp only at hh
  try simp only[gA,seval,hr1,Zj1]
  refine sp an hh (fun _ hh =>?_) (fun _ hh =>?_)
  ·cases hh
   try simp only[gA,seval,hr1,Zj1]
  ·obtain⟨r4,hr4,hh⟩:=ah hh
   obtain⟨r5,hr5,hh⟩:=ah hh
   try simp only[gA,seval,hr1,Zj1,hr4,hr5]
   refine bo (by kernel_rfl) ?_
   cases hh
   try simp only[gA,seval,hr1,Zj1,hr4,hr5]
 ·clear hh
  have hh:=ho2
  try simp only[gA,seval,hr1]
  refine sp bB hh (fun _ hh =>?_) (fun _ hh =>?_)
  ·cases hh
   try simp only[gA,seval,hr1]
   rw[au]
   refine⟨_,rfl,?_⟩
   refine⟨0,0,0,?_,?_,?_,?_,?_,?_,?_⟩
   all_goals first|rfl|(simp only[gA,seval,hr1]<;>rfl)
  ·obtain⟨r7,hr7,hh⟩:=ah hh
   cases hh
   try simp only[gA,seval,hr1,hr7]
   rw[au]
   refine⟨_,rfl,?_⟩
   refine⟨0,0,0,?_,?_,?_,?_,?_,?_,?_⟩
   all_goals first|rfl|(simp only[gA,seval,hr1,hr7]<;>rfl)
theorem zD:bW Try.prog 30 qA:=bW.of (mode := .clean) tok KH mixed Try.func30 (by kernel_rfl) ⟨by kernel_rfl,by kernel_rfl⟩ (fun _=>aej (by kernel_rfl)) (fun x r h=>OS x.1 x.2 r h)
noncomputable def my:=fU (fQ (de mD)) (fun x:bR=>jw x) (fun r:(List ak) =>.clean (.sl false false r.length (ae ay r)))
theorem kF (p0_0:Int) (p0_1:(List dk)):my none [.agg [.int .i64 p0_0,.sl false false p0_1.length (ae ba p0_1)]]=(jw (bR.mk p0_0 p0_1)).map fun r:(List ak)=>(.clean (.sl false false r.length (ae ay r)),none):=aV _ _ _ ((bR.mk p0_0 p0_1))
noncomputable def pj:Env:=(Am.ext (Am.ext a6 30 false qA) 44 false ka)
theorem HY:bC Try.prog pj:=((bC.none.add zD false).add mQ false)
theorem cL:type_of% (ai @w<|ai @rO<|ai @gw<|@pj.eq_1):=⟨@w,@rO,@gw,@pj.eq_1⟩
theorem LY (p0:bR) (r:(List ak)) (hh:jw p0=some r):a7 .clean tab pj FU Try.f37 none [.agg [.int .i64 p0.aG,.sl false false p0.ax.length (ae ba p0.ax)]]=some (.clean (.sl false false r.length (ae ay r)),none):=by
 refine aB rfl Try.ntmps37 Try.results37 ?_
 unfold jw at hh
 obtain⟨x1,hx1,hh⟩:=ah hh
 obtain⟨q2a,q2b,q2c,q2d,q2e⟩:=mk_one ay hx1
 simp only[bJ]at q2d
 try simp only[cL,seval,q2a,q2b,q2c,q2d,q2e]
 obtain⟨o7,ho7,hh⟩:=ah hh
 refine aA (fun s t H e=>match s with|(s12a,l3a)=>∃v1a:Nat,∃v3a:Nat,t 1=.ptr 1 v1a 0∧t 3=.buf 3 v3a 4 0 (l3a).length∧t 11=.int .i64 ((x1).length:Int)∧t 12=.int .i64 s12a∧H 1=some ⟨v1a,24,[.int .i64 p0.aG,.sl false false p0.ax.length (ae ba p0.ax)],false,false,false⟩∧H 3=some ⟨v3a,41,ae ay l3a,false,true,false⟩) (fun o x t H e=>match o with|l3ax=>x=.exit 0∧∃v1ax:Nat,∃v3ax:Nat,t 1=.ptr 1 v1ax 0∧t 3=.buf 3 v3ax 4 0 (l3ax).length∧H 1=some ⟨v1ax,24,[.int .i64 p0.aG,.sl false false p0.ax.length (ae ba p0.ax)],false,false,false⟩∧H 3=some ⟨v3ax,41,ae ay l3ax,false,true,false⟩) ho7 ?_ ?_ ?_
 ·refine⟨0,1,?_,?_,?_,?_,?_,?_⟩
  all_goals first|rfl|(simp only[cL,seval,q2a,q2b,q2c,q2d,q2e]<;>rfl)
 ·rintro⟨s12a,l3a⟩ t H e ⟨v1a,v3a,Za⟩ c hh
  simp only[lq]at hh
  try simp only[cL,seval,q2a,q2b,q2c,q2d,q2e,Za]
  refine sp an hh (fun _ hh =>?_) (fun _ hh =>?_)
  ·obtain⟨r9,hr9,hh⟩:=ah hh
   obtain⟨x10,hx10,hh⟩:=ah hh
   have ax10:=bN ay hx10
   simp only[bJ]at ax10
   have p11:=eN ay (x':=r9) (fo:=0) (cs:=[.int .i64 r9.aH.ag,.sl false false r9.aH.aa.length (ae (eI .i64) r9.aH.aa),.int .i64 r9.aJ.ag,.sl false false r9.aJ.aa.length (ae (eI .i64) r9.aJ.aa)]) hx10 rfl (aej rfl)
   simp only[bJ,Nat.add_zero]at p11
   have up11:=p11
   simp only[putCells,List.length_cons,List.length_nil,adq,Nat.reduceAdd]at up11
   cases hh
   try simp only[cL,seval,q2a,q2b,q2c,q2d,q2e,Za,hr9,ax10,p11,up11]
   refine j5 ?_
   refine⟨v1a,v3a,?_,?_,?_,?_,?_,?_⟩
   all_goals first|rfl|(simp only[cL,seval,q2a,q2b,q2c,q2d,q2e,Za,hr9,ax10,p11,up11]<;>rfl)
  ·cases hh
   try simp only[cL,seval,q2a,q2b,q2c,q2d,q2e,Za]
   refine ll ?_
   refine⟨rfl,⟨v1a,v3a,?_,?_,?_,?_⟩⟩
   all_goals first|rfl|(simp only[cL,seval,q2a,q2b,q2c,q2d,q2e,Za]<;>rfl)
 ·rintro x t H e hx
  obtain⟨l3ax,rfl⟩:∃z,z=o7:=⟨_,rfl⟩
  dsimp only at hx hh
  obtain⟨rfl,⟨v1ax,v3ax,Zax⟩⟩:=hx
  try simp only[cL,seval,q2a,q2b,q2c,q2d,q2e,Zax]
  obtain⟨o17,ho17,hh⟩:=ah hh
  refine aA (fun s t H e=>match s with|(s23b,l3b)=>∃v3b:Nat,t 3=.buf 3 v3b 4 0 (l3b).length∧t 21=.sl false false p0.ax.length (ae ba p0.ax)∧t 22=.int .i64 (p0.ax.length:Int)∧t 23=.int .i64 s23b∧H 3=some ⟨v3b,41,ae ay l3b,false,true,false⟩) (fun o x t H e=>match o with|l3bx=>x=.exit 2∧∃v3bx:Nat,t 3=.buf 3 v3bx 4 0 (l3bx).length∧H 3=some ⟨v3bx,41,ae ay l3bx,false,true,false⟩) ho17 ?_ ?_ ?_
  ·refine⟨v3ax,?_,?_,?_,?_,?_⟩
   all_goals first|rfl|(simp only[cL,seval,q2a,q2b,q2c,q2d,q2e,Zax]<;>rfl)
  ·rintro⟨s23b,l3b⟩ t H e ⟨v3b,Zb⟩ c hh
   simp only[lr]at hh
   try simp only[cL,seval,q2a,q2b,q2c,q2d,q2e,Zb]
   refine sp an hh (fun _ hh =>?_) (fun _ hh =>?_)
   ·obtain⟨x19,hx19,hh⟩:=ah hh
    have ax19:=bN ba hx19
    simp only[bJ]at ax19
    obtain⟨x20,hx20,hh⟩:=ah hh
    have ax20:=bN ay hx20
    simp only[bJ]at ax20
    obtain⟨r21,hr21,hh⟩:=ah hh
    have ax20:=bN ay hx20
    simp only[bJ]at ax20
    have p22:=eN ay (x':=r21.1) (fo:=0) (cs:=[.int .i64 r21.1.aH.ag,.sl false false r21.1.aH.aa.length (ae (eI .i64) r21.1.aH.aa),.int .i64 r21.1.aJ.ag,.sl false false r21.1.aJ.aa.length (ae (eI .i64) r21.1.aJ.aa)]) hx20 rfl (aej rfl)
    simp only[bJ,Nat.add_zero]at p22
    have up22:=p22
    simp only[putCells,List.length_cons,List.length_nil,adq,Nat.reduceAdd]at up22
    try simp only[cL,seval,q2a,q2b,q2c,q2d,q2e,Zb,ax19,ax20,hr21,ax20,p22,up22]
    refine bo (by kernel_rfl) ?_
    cases hh
    try simp only[cL,seval,q2a,q2b,q2c,q2d,q2e,Zb,ax19,ax20,hr21,ax20,p22,up22]
    refine j5 ?_
    refine⟨v3b,?_,?_,?_,?_,?_⟩
    all_goals first|rfl|(simp only[cL,seval,q2a,q2b,q2c,q2d,q2e,Zb,ax19,ax20,hr21,ax20,p22,up22]<;>rfl)
   ·cases hh
    try simp only[cL,seval,q2a,q2b,q2c,q2d,q2e,Zb]
    refine ll ?_
    refine⟨rfl,⟨v3b,?_,?_⟩⟩
    all_goals first|rfl|(simp only[cL,seval,q2a,q2b,q2c,q2d,q2e,Zb]<;>rfl)
  ·rintro x t H e hx
   obtain⟨l3bx,rfl⟩:∃z,z=o17:=⟨_,rfl⟩
   dsimp only at hx hh
   obtain⟨rfl,⟨v3bx,Zbx⟩⟩:=hx
   cases hh
   try simp only[cL,seval,q2a,q2b,q2c,q2d,q2e,Zbx]
theorem rL:bW Try.prog 37 my:=bW.of (mode := .clean) tok HY mixed Try.func37 (by kernel_rfl) ⟨by kernel_rfl,by kernel_rfl⟩ (fun _=>aej (by kernel_rfl)) (fun x r h=>LY x r h)
noncomputable def pO:=fU (fQ (de ay)) (fun x:ak=>kC x) (fun r:Bool =>.clean (.bool r))
theorem vR (p0_0:Int) (p0_1:(List Int)) (p0_2:Int) (p0_3:(List Int)):pO none [.agg [.int .i64 p0_0,.sl false false p0_1.length (ae (eI .i64) p0_1),.int .i64 p0_2,.sl false false p0_3.length (ae (eI .i64) p0_3)]]=(kC (ak.mk (al.mk p0_0 p0_1) (al.mk p0_2 p0_3))).map fun r:Bool=>(.clean (.bool r),none):=aV _ _ _ ((ak.mk (al.mk p0_0 p0_1) (al.mk p0_2 p0_3)))
noncomputable def ml:Env:=(Am.ext a6 20 false mw)
theorem Cb:bC Try.prog ml:=(bC.none.add rK false)
theorem Ej:type_of% (ai @w<|ai @kE<|@ml.eq_1):=⟨@w,@kE,@ml.eq_1⟩
theorem D3 (p0:ak) (r:Bool) (hh:kC p0=some r):a7 .clean tab ml FU Try.f38 none [.agg [.int .i64 p0.aH.ag,.sl false false p0.aH.aa.length (ae (eI .i64) p0.aH.aa),.int .i64 p0.aJ.ag,.sl false false p0.aJ.aa.length (ae (eI .i64) p0.aJ.aa)]]=some (.clean (.bool r),none):=by
 refine aB rfl Try.ntmps38 Try.results38 ?_
 unfold kC at hh
 obtain⟨r1,hr1,hh⟩:=ah hh
 cases hh
 try simp only[Ej,seval,hr1]
theorem CT:bW Try.prog 38 pO:=bW.of (mode := .clean) tok Cb mixed Try.func38 (by kernel_rfl) ⟨by kernel_rfl,by kernel_rfl⟩ (fun _=>aej (by kernel_rfl)) (fun x r h=>D3 x r h)
noncomputable def ep:=fU (jg (mX ay) (fQ (Z7 38))) (fun x:(List ak)×Unit=>bX x.1) (fun r:Int =>.clean (.int .i64 r))
theorem gP (p0:(List ak)):ep none [.sl false false p0.length (ae ay p0),.fn 38]=(bX p0).map fun r:Int=>(.clean (.int .i64 r),none):=aV _ _ _ (p0,())
noncomputable def dh:Env:=(Am.ext a6 38 false pO)
theorem lH:bC Try.prog dh:=(bC.none.add CT false)
theorem aZ:type_of% (ai @w<|ai @vR<|@dh.eq_1):=⟨@w,@vR,@dh.eq_1⟩
theorem lZ (p0:(List ak)) (r:Int) (hh:bX p0=some r):a7 .clean tab dh FU Try.f67 none [.sl false false p0.length (ae ay p0),.fn 38]=some (.clean (.int .i64 r),none):=by
 refine aB rfl Try.ntmps67 Try.results67 ?_
 unfold bX at hh
 try simp only[aZ,seval]
 obtain⟨o5,ho5,hh⟩:=ah hh
 refine aA (fun s t H e=>match s with|s8a=>t 0=.sl false false p0.length (ae ay p0)∧t 1=.fn 38∧t 7=.int .i64 (p0.length:Int)∧t 8=.int .i64 s8a) (fun o x t H e=>match o with|(.inl _)=>x=.exit 0|(.inr r)=>x=.ret∧jl .clean tab none [.tmp 4] ⟨t,EH H,e⟩=some (.clean (.int .i64 r),none)) ho5 ?_ ?_ ?_
 ·refine⟨?_,?_,?_,?_⟩
  all_goals first|rfl|(simp only[aZ,seval]<;>rfl)
 ·rintro s8a t H e Za c hh
  simp only[cW]at hh
  try simp only[aZ,seval,Za]
  refine sp an hh (fun _ hh =>?_) (fun _ hh =>?_)
  ·obtain⟨x7,hx7,hh⟩:=ah hh
   have ax7:=bN ay hx7
   simp only[bJ]at ax7
   obtain⟨r8,hr8,hh⟩:=ah hh
   try simp only[aZ,seval,Za,ax7,hr8]
   refine sp an hh (fun _ hh =>?_) (fun _ hh =>?_)
   ·cases hh
    try simp only[aZ,seval,Za,ax7,hr8]
    refine IZ ⟨rfl,?_⟩
    try simp only[aZ,seval,Za,ax7,hr8]
   ·cases hh
    try simp only[aZ,seval,Za,ax7,hr8]
    refine j5 ?_
    refine⟨?_,?_,?_,?_⟩
    all_goals first|rfl|(simp only[aZ,seval,Za,ax7,hr8]<;>rfl)
  ·cases hh
   try simp only[aZ,seval,Za]
   refine ll ?_
   exact rfl
 ·rintro x t H e hx
  rcases o5 with _|ra
  ·dsimp only at hx hh
   subst hx
   cases hh
   try simp only[aZ,seval]
  ·dsimp only at hx hh
   obtain⟨rfl,hE⟩:=hx
   cases hh
   try simp only[bP,bH,b7,eH,eE,dI,dJ]
   exact hE
theorem lI:bW Try.prog 67 ep:=bW.of (mode := .clean) tok lH mixed Try.func67 (by kernel_rfl) ⟨by kernel_rfl,by kernel_rfl⟩ (fun _=>aej (by kernel_rfl)) (fun x r h=>lZ x.1 r h)
noncomputable def dO:=fU (jg (mX ay) (fQ (Z7 38))) (fun x:(List ak)×Unit=>bs x.1) (fun r:Bool =>.clean (.bool r))
theorem fN (p0:(List ak)):dO none [.sl false false p0.length (ae ay p0),.fn 38]=(bs p0).map fun r:Bool=>(.clean (.bool r),none):=aV _ _ _ (p0,())
noncomputable def cG:Env:=(Am.ext a6 67 false ep)
theorem kg:bC Try.prog cG:=(bC.none.add lI false)
theorem kQ:type_of% (ai @w<|ai @gP<|@cG.eq_1):=⟨@w,@gP,@cG.eq_1⟩
theorem kP (p0:(List ak)) (r:Bool) (hh:bs p0=some r):a7 .clean tab cG FU Try.f36 none [.sl false false p0.length (ae ay p0),.fn 38]=some (.clean (.bool r),none):=by
 refine aB rfl Try.ntmps36 Try.results36 ?_
 unfold bs at hh
 obtain⟨r1,hr1,hh⟩:=ah hh
 cases hh
 try simp only[kQ,seval,hr1]
theorem kj:bW Try.prog 36 dO:=bW.of (mode := .clean) tok kg mixed Try.func36 (by kernel_rfl) ⟨by kernel_rfl,by kernel_rfl⟩ (fun _=>aej (by kernel_rfl)) (fun x r h=>kP x.1 r h)
noncomputable def kp:=fU (fQ (de mD)) (fun x:bR=>iA x) (fun r:Bool =>.clean (.bool r))
theorem gW (p0_0:Int) (p0_1:(List dk)):kp none [.agg [.int .i64 p0_0,.sl false false p0_1.length (ae ba p0_1)]]=(iA (bR.mk p0_0 p0_1)).map fun r:Bool=>(.clean (.bool r),none):=aV _ _ _ ((bR.mk p0_0 p0_1))
noncomputable def pg:Env:=(Am.ext (Am.ext (Am.ext (Am.ext (Am.ext (Am.ext a6 20 false mw) 22 false ew) 34 false ng) 35 false qC) 36 false dO) 37 false my)
theorem HX:bC Try.prog pg:=((((((bC.none.add rK false).add fi false).add vP false).add Ea false).add kj false).add rL false)
theorem aL:type_of% (ai @w<|ai @kE<|ai @cl<|ai @nK<|ai @xE<|ai @fN<|ai @kF<|@pg.eq_1):=⟨@w,@kE,@cl,@nK,@xE,@fN,@kF,@pg.eq_1⟩
theorem LX (p0:bR) (r:Bool) (hh:iA p0=some r):a7 .clean tab pg FU Try.f11 none [.agg [.int .i64 p0.aG,.sl false false p0.ax.length (ae ba p0.ax)]]=some (.clean (.bool r),none):=by
 refine aB rfl Try.ntmps11 Try.results11 ?_
 unfold iA at hh
 obtain⟨r1,hr1,hh⟩:=ah hh
 try simp only[aL,seval,hr1]
 obtain⟨o2,ho2,hh⟩:=ah hh
 refine bS 0 (fun s t H e=>match s with|s14j1=>∃v1j1:Nat,t 1=.ptr 1 v1j1 0∧t 14=.bool s14j1∧H 1=some ⟨v1j1,24,[.int .i64 p0.aG,.sl false false p0.ax.length (ae ba p0.ax)],false,false,false⟩) (fun s=>s=o2) ?_ ?_
 ·rintro s14j1 t H e ⟨v1j1,Zj1⟩ rfl
  try dsimp only at hh
  try simp only[aL,seval,hr1,Zj1]
  refine sp an hh (fun _ hh =>?_) (fun _ hh =>?_)
  ·cases hh
   try simp only[aL,seval,hr1,Zj1]
  ·try simp only[aL,seval,hr1,Zj1]
   obtain⟨o19,ho19,hh⟩:=ah hh
   refine aA (fun s t H e=>match s with|s18b=>∃v1b:Nat,t 1=.ptr 1 v1b 0∧t 16=.sl false false p0.ax.length (ae ba p0.ax)∧t 17=.int .i64 (p0.ax.length:Int)∧t 18=.int .i64 s18b∧H 1=some ⟨v1b,24,[.int .i64 p0.aG,.sl false false p0.ax.length (ae ba p0.ax)],false,false,false⟩) (fun o x t H e=>match o with|(.inl _)=>x=.exit 0∧∃v1bx:Nat,t 1=.ptr 1 v1bx 0∧H 1=some ⟨v1bx,24,[.int .i64 p0.aG,.sl false false p0.ax.length (ae ba p0.ax)],false,false,false⟩|(.inr r)=>x=.ret∧jl .clean tab none [.tmp 2] ⟨t,EH H,e⟩=some (.clean (.bool r),none)) ho19 ?_ ?_ ?_
   ·refine⟨v1j1,?_,?_,?_,?_,?_⟩
    all_goals first|rfl|(simp only[aL,seval,hr1,Zj1]<;>rfl)
   ·rintro s18b t H e ⟨v1b,Zb⟩ c hh
    simp only[lp]at hh
    try simp only[aL,seval,hr1,Zb]
    refine sp an hh (fun _ hh =>?_) (fun _ hh =>?_)
    ·obtain⟨x21,hx21,hh⟩:=ah hh
     have ax21:=bN ba hx21
     simp only[bJ]at ax21
     obtain⟨r22,hr22,hh⟩:=ah hh
     try simp only[aL,seval,hr1,Zb,ax21,hr22]
     obtain⟨o23,ho23,hh⟩:=ah hh
     refine bS 0 (fun s t H e=>match s with|s50j4=>∃v1j4:Nat,∃v4j4:Nat,t 1=.ptr 1 v1j4 0∧t 3=.int .i64 s18b∧t 4=.ptr 4 v4j4 0∧t 16=.sl false false p0.ax.length (ae ba p0.ax)∧t 17=.int .i64 (p0.ax.length:Int)∧t 18=.int .i64 s18b∧t 50=.bool s50j4∧H 1=some ⟨v1j4,24,[.int .i64 p0.aG,.sl false false p0.ax.length (ae ba p0.ax)],false,false,false⟩∧H 4=some ⟨v4j4,46,[.int .i64 x21.dj,.int .i64 x21.lG,.int .i64 x21.bd.aH.ag,.sl false false x21.bd.aH.aa.length (ae (eI .i64) x21.bd.aH.aa),.int .i64 x21.bd.aJ.ag,.sl false false x21.bd.aJ.aa.length (ae (eI .i64) x21.bd.aJ.aa)],false,false,false⟩) (fun s=>s=o23) ?_ ?_
     ·rintro s50j4 t H e ⟨v1j4,v4j4,Zj4⟩ rfl
      try dsimp only at hh
      try simp only[aL,seval,hr1,ax21,hr22,Zj4]
      refine sp an hh (fun _ hh =>?_) (fun _ hh =>?_)
      ·cases hh
       try simp only[aL,seval,hr1,ax21,hr22,Zj4]
       refine IZ ⟨rfl,?_⟩
       try simp only[aL,seval,hr1,ax21,hr22,Zj4]
      ·try simp only[aL,seval,hr1,ax21,hr22,Zj4]
       refine sp sd hh (fun _ hh =>?_) (fun _ hh =>?_)
       ·obtain⟨x26,hx26,hh⟩:=ah hh
        have ax26:=bN ba hx26
        simp only[bJ]at ax26
        obtain⟨r27,hr27,hh⟩:=ah hh
        try simp only[aL,seval,hr1,ax21,hr22,Zj4,ax26,hr27]
        refine bo (by kernel_rfl) ?_
        try simp only[aL,seval,hr1,ax21,hr22,Zj4,ax26,hr27]
        refine sp an hh (fun _ hh =>?_) (fun _ hh =>?_)
        ·cases hh
         try simp only[aL,seval,hr1,ax21,hr22,Zj4,ax26,hr27]
         refine IZ ⟨rfl,?_⟩
         try simp only[aL,seval,hr1,ax21,hr22,Zj4,ax26,hr27]
        ·cases hh
         try simp only[aL,seval,hr1,ax21,hr22,Zj4,ax26,hr27]
         refine j5 ?_
         refine⟨v1j4,?_,?_,?_,?_,?_⟩
         all_goals first|rfl|(simp only[aL,seval,hr1,ax21,hr22,Zj4,ax26,hr27]<;>rfl)
       ·try simp only[aL,seval,hr1,ax21,hr22,Zj4]
        refine bo (by kernel_rfl) ?_
        cases hh
        try simp only[aL,seval,hr1,ax21,hr22,Zj4]
        refine j5 ?_
        refine⟨v1j4,?_,?_,?_,?_,?_⟩
        all_goals first|rfl|(simp only[aL,seval,hr1,ax21,hr22,Zj4]<;>rfl)
     ·clear hh
      have hh:=ho23
      try simp only[aL,seval,hr1,Zb,ax21,hr22]
      refine sp bB hh (fun _ hh =>?_) (fun _ hh =>?_)
      ·cases hh
       try simp only[aL,seval,hr1,Zb,ax21,hr22]
       rw[au]
       refine⟨_,rfl,?_⟩
       refine⟨v1b,e+1,?_,?_,?_,?_,?_,?_,?_,?_,?_⟩
       all_goals first|rfl|(simp only[aL,seval,hr1,Zb,ax21,hr22]<;>rfl)
      ·obtain⟨r30,hr30,hh⟩:=ah hh
       try simp only[aL,seval,hr1,Zb,ax21,hr22,hr30]
       refine sp bB hh (fun _ hh =>?_) (fun _ hh =>?_)
       ·cases hh
        try simp only[aL,seval,hr1,Zb,ax21,hr22,hr30]
        rw[au]
        refine⟨_,rfl,?_⟩
        refine⟨v1b,e+1,?_,?_,?_,?_,?_,?_,?_,?_,?_⟩
        all_goals first|rfl|(simp only[aL,seval,hr1,Zb,ax21,hr22,hr30]<;>rfl)
       ·obtain⟨r32,hr32,hh⟩:=ah hh
        try simp only[aL,seval,hr1,Zb,ax21,hr22,hr30,hr32]
        refine sp bB hh (fun _ hh =>?_) (fun _ hh =>?_)
        ·cases hh
         try simp only[aL,seval,hr1,Zb,ax21,hr22,hr30,hr32]
         rw[au]
         refine⟨_,rfl,?_⟩
         refine⟨v1b,e+1,?_,?_,?_,?_,?_,?_,?_,?_,?_⟩
         all_goals first|rfl|(simp only[aL,seval,hr1,Zb,ax21,hr22,hr30,hr32]<;>rfl)
        ·obtain⟨r34,hr34,hh⟩:=ah hh
         cases hh
         try simp only[aL,seval,hr1,Zb,ax21,hr22,hr30,hr32,hr34]
         rw[au]
         refine⟨_,rfl,?_⟩
         refine⟨v1b,e+1,?_,?_,?_,?_,?_,?_,?_,?_,?_⟩
         all_goals first|rfl|(simp only[aL,seval,hr1,Zb,ax21,hr22,hr30,hr32,hr34]<;>rfl)
    ·cases hh
     try simp only[aL,seval,hr1,Zb]
     refine ll ?_
     refine⟨rfl,⟨v1b,?_,?_⟩⟩
     all_goals first|rfl|(simp only[aL,seval,hr1,Zb]<;>rfl)
   ·rintro x t H e hx
    rcases o19 with _|rb
    ·dsimp only at hx hh
     obtain⟨rfl,⟨v1bx,Zbx⟩⟩:=hx
     obtain⟨r35,hr35,hh⟩:=ah hh
     obtain⟨r36,hr36,hh⟩:=ah hh
     cases hh
     try simp only[aL,seval,hr1,Zbx,hr35,hr36]
    ·dsimp only at hx hh
     obtain⟨rfl,hE⟩:=hx
     cases hh
     try simp only[bP,bH,b7,eH,eE,dI,dJ]
     exact hE
 ·clear hh
  have hh:=ho2
  try simp only[aL,seval,hr1]
  refine sp bB hh (fun _ hh =>?_) (fun _ hh =>?_)
  ·cases hh
   try simp only[aL,seval,hr1]
   rw[au]
   refine⟨_,rfl,?_⟩
   refine⟨0,?_,?_,?_⟩
   all_goals first|rfl|(simp only[aL,seval,hr1]<;>rfl)
  ·cases hh
   try simp only[aL,seval,hr1]
   rw[au]
   refine⟨_,rfl,?_⟩
   refine⟨0,?_,?_,?_⟩
   all_goals first|rfl|(simp only[aL,seval,hr1]<;>rfl)
theorem nG:bW Try.prog 11 kp:=bW.of (mode := .clean) tok HX mixed Try.func11 (by kernel_rfl) ⟨by kernel_rfl,by kernel_rfl⟩ (fun _=>aej (by kernel_rfl)) (fun x r h=>LX x r h)
noncomputable def kR:=fU (fQ (de ay)) (fun x:ak=>fW x) (fun r:Bool =>.clean (.bool r))
theorem pC (p0_0:Int) (p0_1:(List Int)) (p0_2:Int) (p0_3:(List Int)):kR none [.agg [.int .i64 p0_0,.sl false false p0_1.length (ae (eI .i64) p0_1),.int .i64 p0_2,.sl false false p0_3.length (ae (eI .i64) p0_3)]]=(fW (ak.mk (al.mk p0_0 p0_1) (al.mk p0_2 p0_3))).map fun r:Bool=>(.clean (.bool r),none):=aV _ _ _ ((ak.mk (al.mk p0_0 p0_1) (al.mk p0_2 p0_3)))
noncomputable def iM:Env:=(Am.ext a6 22 false ew)
theorem wz:bC Try.prog iM:=(bC.none.add fi false)
theorem xT:type_of% (ai @w<|ai @cl<|@iM.eq_1):=⟨@w,@cl,@iM.eq_1⟩
theorem xu (p0:ak) (r:Bool) (hh:fW p0=some r):a7 .clean tab iM FU Try.f68 none [.agg [.int .i64 p0.aH.ag,.sl false false p0.aH.aa.length (ae (eI .i64) p0.aH.aa),.int .i64 p0.aJ.ag,.sl false false p0.aJ.aa.length (ae (eI .i64) p0.aJ.aa)]]=some (.clean (.bool r),none):=by
 refine aB rfl Try.ntmps68 Try.results68 ?_
 unfold fW at hh
 obtain⟨r1,hr1,hh⟩:=ah hh
 cases hh
 try simp only[xT,seval,hr1]
theorem wD:bW Try.prog 68 kR:=bW.of (mode := .clean) tok wz mixed Try.func68 (by kernel_rfl) ⟨by kernel_rfl,by kernel_rfl⟩ (fun _=>aej (by kernel_rfl)) (fun x r h=>xu x r h)
noncomputable def dA:=fU (jg (mX ay) (fQ (Z7 68))) (fun x:(List ak)×Unit=>bK x.1) (fun r:Int =>.clean (.int .i64 r))
theorem fC (p0:(List ak)):dA none [.sl false false p0.length (ae ay p0),.fn 68]=(bK p0).map fun r:Int=>(.clean (.int .i64 r),none):=aV _ _ _ (p0,())
noncomputable def cA:Env:=(Am.ext a6 68 false kR)
theorem jM:bC Try.prog cA:=(bC.none.add wD false)
theorem aN:type_of% (ai @w<|ai @pC<|@cA.eq_1):=⟨@w,@pC,@cA.eq_1⟩
theorem kh (p0:(List ak)) (r:Int) (hh:bK p0=some r):a7 .clean tab cA FU Try.f67 none [.sl false false p0.length (ae ay p0),.fn 68]=some (.clean (.int .i64 r),none):=by
 refine aB rfl Try.ntmps67 Try.results67 ?_
 unfold bK at hh
 try simp only[aN,seval]
 obtain⟨o5,ho5,hh⟩:=ah hh
 refine aA (fun s t H e=>match s with|s8a=>t 0=.sl false false p0.length (ae ay p0)∧t 1=.fn 68∧t 7=.int .i64 (p0.length:Int)∧t 8=.int .i64 s8a) (fun o x t H e=>match o with|(.inl _)=>x=.exit 0|(.inr r)=>x=.ret∧jl .clean tab none [.tmp 4] ⟨t,EH H,e⟩=some (.clean (.int .i64 r),none)) ho5 ?_ ?_ ?_
 ·refine⟨?_,?_,?_,?_⟩
  all_goals first|rfl|(simp only[aN,seval]<;>rfl)
 ·rintro s8a t H e Za c hh
  simp only[cu]at hh
  try simp only[aN,seval,Za]
  refine sp an hh (fun _ hh =>?_) (fun _ hh =>?_)
  ·obtain⟨x7,hx7,hh⟩:=ah hh
   have ax7:=bN ay hx7
   simp only[bJ]at ax7
   obtain⟨r8,hr8,hh⟩:=ah hh
   try simp only[aN,seval,Za,ax7,hr8]
   refine sp an hh (fun _ hh =>?_) (fun _ hh =>?_)
   ·cases hh
    try simp only[aN,seval,Za,ax7,hr8]
    refine IZ ⟨rfl,?_⟩
    try simp only[aN,seval,Za,ax7,hr8]
   ·cases hh
    try simp only[aN,seval,Za,ax7,hr8]
    refine j5 ?_
    refine⟨?_,?_,?_,?_⟩
    all_goals first|rfl|(simp only[aN,seval,Za,ax7,hr8]<;>rfl)
  ·cases hh
   try simp only[aN,seval,Za]
   refine ll ?_
   exact rfl
 ·rintro x t H e hx
  rcases o5 with _|ra
  ·dsimp only at hx hh
   subst hx
   cases hh
   try simp only[aN,seval]
  ·dsimp only at hx hh
   obtain⟨rfl,hE⟩:=hx
   cases hh
   try simp only[bP,bH,b7,eH,eE,dI,dJ]
   exact hE
theorem jR:bW Try.prog 67 dA:=bW.of (mode := .clean) tok jM mixed Try.func67 (by kernel_rfl) ⟨by kernel_rfl,by kernel_rfl⟩ (fun _=>aej (by kernel_rfl)) (fun x r h=>kh x.1 r h)
noncomputable def db:=fU (jg (mX ay) (fQ (Z7 68))) (fun x:(List ak)×Unit=>bu x.1) (fun r:Bool =>.clean (.bool r))
theorem eO (p0:(List ak)):db none [.sl false false p0.length (ae ay p0),.fn 68]=(bu p0).map fun r:Bool=>(.clean (.bool r),none):=aV _ _ _ (p0,())
noncomputable def cg:Env:=(Am.ext a6 67 false dA)
theorem iV:bC Try.prog cg:=(bC.none.add jR false)
theorem jA:type_of% (ai @w<|ai @fC<|@cg.eq_1):=⟨@w,@fC,@cg.eq_1⟩
theorem jo (p0:(List ak)) (r:Bool) (hh:bu p0=some r):a7 .clean tab cg FU Try.f36 none [.sl false false p0.length (ae ay p0),.fn 68]=some (.clean (.bool r),none):=by
 refine aB rfl Try.ntmps36 Try.results36 ?_
 unfold bu at hh
 obtain⟨r1,hr1,hh⟩:=ah hh
 cases hh
 try simp only[jA,seval,hr1]
theorem iY:bW Try.prog 36 db:=bW.of (mode := .clean) tok iV mixed Try.func36 (by kernel_rfl) ⟨by kernel_rfl,by kernel_rfl⟩ (fun _=>aej (by kernel_rfl)) (fun x r h=>jo x.1 r h)
noncomputable def jX:=fU (jg (mX ay) (fQ (aI .i64))) (fun x:(List ak)×Int=>eA x.1 x.2) (fun r:Bool =>.clean (.bool r))
theorem j7 (p0:(List ak)) (p1:Int):jX none [.sl false false p0.length (ae ay p0),.int .i64 p1]=(eA p0 p1).map fun r:Bool=>(.clean (.bool r),none):=aV _ _ _ (p0,p1)
noncomputable def j3:Env:=(Am.ext a6 36 false db)
theorem yw:bC Try.prog j3:=(bC.none.add iY false)
theorem m8:type_of% (ai @w<|ai @eO<|@j3.eq_1):=⟨@w,@eO,@j3.eq_1⟩
theorem Aj (p0:(List ak)) (p1:Int) (r:Bool) (hh:eA p0 p1=some r):a7 .clean tab j3 FU Try.f39 none [.sl false false p0.length (ae ay p0),.int .i64 p1]=some (.clean (.bool r),none):=by
 refine aB rfl Try.ntmps39 Try.results39 ?_
 unfold eA at hh
 try simp only[m8,seval]
 refine sp dW hh (fun _ hh =>?_) (fun _ hh =>?_)
 ·obtain⟨r2,hr2,hh⟩:=ah hh
  cases hh
  try simp only[m8,seval,hr2]
 ·cases hh
  try simp only[m8,seval]
theorem qk:bW Try.prog 39 jX:=bW.of (mode := .clean) tok yw mixed Try.func39 (by kernel_rfl) ⟨by kernel_rfl,by kernel_rfl⟩ (fun _=>aej (by kernel_rfl)) (fun x r h=>Aj x.1 x.2 r h)
noncomputable def sR:=fU (fQ (de mD)) (fun x:bR=>jr x) (fun r:(List Int) =>.clean (.sl false false r.length (ae (eI .i64) r)))
theorem zN (p0_0:Int) (p0_1:(List dk)):sR none [.agg [.int .i64 p0_0,.sl false false p0_1.length (ae ba p0_1)]]=(jr (bR.mk p0_0 p0_1)).map fun r:(List Int)=>(.clean (.sl false false r.length (ae (eI .i64) r)),none):=aV _ _ _ ((bR.mk p0_0 p0_1))
noncomputable def pf:Env:=(Am.xA 18 (3,1,0) (Am.ext (Am.ext (Am.ext a6 11 false kp) 20 false mw) 37 false my))
theorem HW:bC Try.prog pf:=(bC.xA (((bC.none.add nG false).add rK false).add rL false) 18 (3,1,0))
theorem aO:type_of% (ai @w<|ai @gW<|ai @kE<|ai @kF<|@pf.eq_1):=⟨@w,@gW,@kE,@kF,@pf.eq_1⟩
theorem LW (p0:bR) (r:(List Int)) (hh:jr p0=some r):a7 .clean tab pf FU Try.f45 none [.agg [.int .i64 p0.aG,.sl false false p0.ax.length (ae ba p0.ax)]]=some (.clean (.sl false false r.length (ae (eI .i64) r)),none):=by
 refine aB rfl Try.ntmps45 Try.results45 ?_
 unfold jr at hh
 obtain⟨r1,hr1,hh⟩:=ah hh
 try simp only[aO,seval,-Int.reduceToNat,hr1]
 refine sp an hh (fun _ hh =>?_) (fun _ hh =>?_)
 ·cases hh
  try simp only[aO,seval,-Int.reduceToNat,hr1]
 ·obtain⟨x3,hx3,hh⟩:=ah hh
  have q4n:=Rx (E:=(BN (eI .i64))) (ty':=3) (s:=1) (f:=0) (k := .i64) IL (by rfl) rfl rfl rfl rfl rfl hx3
  obtain⟨q4a,q4b,q4c,q4d,q4e⟩:=mk_one (BN (eI .i64)) hx3
  try simp only[aO,seval,-Int.reduceToNat,hr1,q4n,q4a]
  obtain⟨o11,ho11,hh⟩:=ah hh
  refine aA (fun s t H e=>match s with|(s22a,l18a)=>∃v1a:Nat,∃v18a:Nat,∃vn18a:Nat,t 1=.ptr 1 v1a 0∧t 3=.buf 18 v18a 1 0 (l18a).length∧t 20=.sl false false p0.ax.length (ae ba p0.ax)∧t 21=.int .i64 (p0.ax.length:Int)∧t 22=.int .i64 s22a∧H 1=some ⟨v1a,24,[.int .i64 p0.aG,.sl false false p0.ax.length (ae ba p0.ax)],false,false,false⟩∧H 18=some ⟨v18a,33,[.nr 3 1 vn18a (ae (BN (eI .i64)) l18a)],false,true,true⟩∧vn18a<=4*e) (fun o x t H e=>match o with|l18ax=>x=.exit 0∧∃v1ax:Nat,∃v18ax:Nat,∃vn18ax:Nat,t 1=.ptr 1 v1ax 0∧t 3=.buf 18 v18ax 1 0 (l18ax).length∧H 1=some ⟨v1ax,24,[.int .i64 p0.aG,.sl false false p0.ax.length (ae ba p0.ax)],false,false,false⟩∧H 18=some ⟨v18ax,33,[.nr 3 1 vn18ax (ae (BN (eI .i64)) l18ax)],false,true,true⟩∧vn18ax<=4*e) ho11 ?_ ?_ ?_
  ·refine⟨0,2,4*(2)+2,?_,?_,?_,?_,?_,?_,?_,?_⟩
   all_goals (first|rfl|omega|(simp only[aO,seval,-Int.reduceToNat,hr1,q4n,q4a]<;>rfl))
  ·rintro⟨s22a,l18a⟩ t H e ⟨v1a,v18a,vn18a,Za⟩ c hh
   simp only[js]at hh
   try simp only[aO,seval,-Int.reduceToNat,hr1,q4n,q4a,Za]
   refine sp an hh (fun _ hh =>?_) (fun _ hh =>?_)
   ·obtain⟨x13,hx13,hh⟩:=ah hh
    have ax13:=bN ba hx13
    simp only[bJ]at ax13
    obtain⟨x14,hx14,hh⟩:=ah hh
    have ax14:=bN (BN (eI .i64)) hx14
    simp only[bJ]at ax14
    obtain⟨x15,hx15,hh⟩:=ah hh
    obtain⟨q16a,q16b,q16c,q16d⟩:=iK (eI .i64) hx15
    simp only[bJ]at q16b
    have ax14:=bN (BN (eI .i64)) hx14
    simp only[bJ]at ax14
    have p17:=MM (BN (eI .i64)) (x':=x15) 0 .und (.nx x15.length (ae (eI .i64) x15)) hx14 rfl (aej rfl)
    have lp17:=RJ (BN (eI .i64)) 0 .und hx14 (aej rfl)
    simp only[bJ,Nat.add_zero]at p17 lp17
    have up17:=p17
    simp only[putCells,List.length_cons,List.length_nil,adq,Nat.reduceAdd]at up17
    have ulp17:=lp17
    simp only[putCells,List.length_cons,List.length_nil,adq,Nat.reduceAdd]at ulp17
    have bp17:oR vn18a (e+1+1)=some (4*(e+1+1)+1):=jj (by omega)
    try simp only[aO,seval,-Int.reduceToNat,hr1,q4n,q4a,Za,ax13,ax14,q16a,q16b,q16c,q16d,ax14,p17,up17,lp17,ulp17,bp17]
    refine bo (by kernel_rfl) ?_
    cases hh
    try simp only[aO,seval,-Int.reduceToNat,hr1,q4n,q4a,Za,ax13,ax14,q16a,q16b,q16c,q16d,ax14,p17,up17,lp17,ulp17,bp17]
    refine j5 ?_
    refine⟨v1a,v18a,4*(e+1+1)+1,?_,?_,?_,?_,?_,?_,?_,?_⟩
    all_goals (first|rfl|omega|(simp only[aO,seval,-Int.reduceToNat,hr1,q4n,q4a,Za,ax13,ax14,q16a,q16b,q16c,q16d,ax14,p17,up17,lp17,ulp17,bp17]<;>rfl))
   ·cases hh
    try simp only[aO,seval,-Int.reduceToNat,hr1,q4n,q4a,Za]
    refine ll ?_
    refine⟨rfl,⟨v1a,v18a,vn18a,?_,?_,?_,?_,?_⟩⟩
    all_goals (first|rfl|omega|(simp only[aO,seval,-Int.reduceToNat,hr1,q4n,q4a,Za]<;>rfl))
  ·rintro x t H e hx
   obtain⟨l18ax,rfl⟩:∃z,z=o11:=⟨_,rfl⟩
   dsimp only at hx hh
   obtain⟨rfl,⟨v1ax,v18ax,vn18ax,Zax⟩⟩:=hx
   obtain⟨x18,hx18,hh⟩:=ah hh
   obtain⟨q19a,q19b,q19c,q19d,q19e⟩:=mk_one (eI .i64) hx18
   simp only[bJ]at q19d
   obtain⟨r20,hr20,hh⟩:=ah hh
   try simp only[aO,seval,-Int.reduceToNat,hr1,q4n,q4a,Zax,q19a,q19b,q19c,q19d,q19e,hr20]
   obtain⟨o31,ho31,hh⟩:=ah hh
   refine aA (fun s t H e=>match s with|(s46b,l6b,l7b)=>∃v6b:Nat,∃v7b:Nat,∃v18b:Nat,∃vn18b:Nat,∃O7b:Nat,∃C7b:List D,t 3=.buf 18 v18b 1 0 (l18ax).length∧t 6=.buf 6 v6b 1 0 (l6b).length∧t 7=.buf 7 v7b 1 O7b (l7b).length∧t 44=.sl false false r20.length (ae ay r20)∧t 45=.int .i64 (r20.length:Int)∧t 46=.int .i64 s46b∧H 6=some ⟨v6b,3,ae (eI .i64) l6b,false,true,false⟩∧H 7=some ⟨v7b,3,C7b,false,true,false⟩∧H 18=some ⟨v18b,33,[.nr 3 1 vn18b (ae (BN (eI .i64)) l18ax)],false,true,true⟩∧vn18b<=4*e∧sD (eI .i64) C7b O7b l7b) (fun o x t H e=>match o with|(l6bx,l7bx)=>x=.exit 2∧∃v6bx:Nat,∃v7bx:Nat,∃v18bx:Nat,∃vn18bx:Nat,∃O7bx:Nat,∃C7bx:List D,t 3=.buf 18 v18bx 1 0 (l18ax).length∧t 6=.buf 6 v6bx 1 0 (l6bx).length∧t 7=.buf 7 v7bx 1 O7bx (l7bx).length∧H 6=some ⟨v6bx,3,ae (eI .i64) l6bx,false,true,false⟩∧H 7=some ⟨v7bx,3,C7bx,false,true,false⟩∧H 18=some ⟨v18bx,33,[.nr 3 1 vn18bx (ae (BN (eI .i64)) l18ax)],false,true,true⟩∧vn18bx<=4*e∧sD (eI .i64) C7bx O7bx l7bx) ho31 ?_ ?_ ?_
   ·refine⟨e,e+1,v18ax,vn18ax,0,(ae (eI .i64) ([])),?_,?_,?_,?_,?_,?_,?_,?_,?_,?_,(sD.self (eI .i64) ([]))⟩
    all_goals (first|rfl|omega|(simp only[aO,seval,-Int.reduceToNat,hr1,q4n,q4a,Zax,q19a,q19b,q19c,q19d,q19e,hr20]<;>rfl))
   ·rintro⟨s46b,l6b,l7b⟩ t H e ⟨v6b,v7b,v18b,vn18b,O7b,C7b,t3b,t6b,t7b,t44b,t45b,t46b,H6b,H7b,H18b,Hn18b,F7b⟩ c hh
    simp only[jt]at hh
    have f1F7b:=F7b.fit
    have f2F7b:=F7b.eq
    simp only[bJ]at f1F7b f2F7b
    try simp only[aO,seval,-Int.reduceToNat,hr1,q4n,q4a,q19a,q19b,q19c,q19d,q19e,hr20,t3b,t6b,t7b,t44b,t45b,t46b,H6b,H7b,H18b,Hn18b,f1F7b,f2F7b]
    refine sp an hh (fun _ hh =>?_) (fun _ hh =>?_)
    ·obtain⟨x33,hx33,hh⟩:=ah hh
     have ax33:=bN ay hx33
     simp only[bJ]at ax33
     obtain⟨x34,hx34,hh⟩:=ah hh
     have ax34:=bN (eI .i64) hx34
     simp only[bJ]at ax34
     have p35:=eN (eI .i64) (x':=(-1)) (fo:=0) (cs:=[.int .i64 (-1)]) hx34 rfl (aej rfl)
     simp only[bJ,Nat.add_zero]at p35
     have up35:=p35
     simp only[putCells,List.length_cons,List.length_nil,adq,Nat.reduceAdd]at up35
     obtain⟨r36,hr36,hh⟩:=ah hh
     try simp only[aO,seval,-Int.reduceToNat,hr1,q4n,q4a,q19a,q19b,q19c,q19d,q19e,hr20,t3b,t6b,t7b,t44b,t45b,t46b,H6b,H7b,H18b,Hn18b,f1F7b,f2F7b,ax33,ax34,p35,up35,hr36]
     refine sp an hh (fun _ hh =>?_) (fun _ hh =>?_)
     ·obtain⟨x38,hx38,hh⟩:=ah hh
      have ax38:=bN (eI .i64) hx38
      simp only[bJ,aeB]at ax38
      have p39:=eN (eI .i64) (x':=0) (fo:=0) (cs:=[.int .i64 0]) hx38 rfl (aej rfl)
      simp only[bJ,Nat.add_zero]at p39
      have up39:=p39
      simp only[putCells,List.length_cons,List.length_nil,adq,Nat.reduceAdd]at up39
      obtain⟨x40,hx40,hh⟩:=ah hh
      obtain⟨q41a,q41b,q41c,q41d⟩:=iK (eI .i64) hx40
      simp only[bJ]at q41b
      cases hh
      try simp only[aO,seval,-Int.reduceToNat,hr1,q4n,q4a,q19a,q19b,q19c,q19d,q19e,hr20,t3b,t6b,t7b,t44b,t45b,t46b,H6b,H7b,H18b,Hn18b,f1F7b,f2F7b,ax33,ax34,p35,up35,hr36,ax38,p39,up39,q41a,q41b,q41c,q41d]
      refine j5 ?_
      refine⟨v6b,e+1+1+1+1+1,v18b,vn18b,0,(ae (eI .i64) x40),?_,?_,?_,?_,?_,?_,?_,?_,?_,?_,(sD.self (eI .i64) x40)⟩
      all_goals (first|rfl|omega|(simp only[aO,seval,-Int.reduceToNat,hr1,q4n,q4a,q19a,q19b,q19c,q19d,q19e,hr20,t3b,t6b,t7b,t44b,t45b,t46b,H6b,H7b,H18b,Hn18b,f1F7b,f2F7b,ax33,ax34,p35,up35,hr36,ax38,p39,up39,q41a,q41b,q41c,q41d]<;>rfl))
     ·cases hh
      try simp only[aO,seval,-Int.reduceToNat,hr1,q4n,q4a,q19a,q19b,q19c,q19d,q19e,hr20,t3b,t6b,t7b,t44b,t45b,t46b,H6b,H7b,H18b,Hn18b,f1F7b,f2F7b,ax33,ax34,p35,up35,hr36]
      refine j5 ?_
      refine⟨v6b,v7b,v18b,vn18b,O7b,C7b,?_,?_,?_,?_,?_,?_,?_,?_,?_,?_,F7b⟩
      all_goals (first|rfl|omega|(simp only[aO,seval,-Int.reduceToNat,hr1,q4n,q4a,q19a,q19b,q19c,q19d,q19e,hr20,t3b,t6b,t7b,t44b,t45b,t46b,H6b,H7b,H18b,Hn18b,f1F7b,f2F7b,ax33,ax34,p35,up35,hr36]<;>rfl))
    ·cases hh
     try simp only[aO,seval,-Int.reduceToNat,hr1,q4n,q4a,q19a,q19b,q19c,q19d,q19e,hr20,t3b,t6b,t7b,t44b,t45b,t46b,H6b,H7b,H18b,Hn18b,f1F7b,f2F7b]
     refine ll ?_
     refine⟨rfl,⟨v6b,v7b,v18b,vn18b,O7b,C7b,?_,?_,?_,?_,?_,?_,?_,F7b⟩⟩
     all_goals (first|rfl|omega|(simp only[aO,seval,-Int.reduceToNat,hr1,q4n,q4a,q19a,q19b,q19c,q19d,q19e,hr20,t3b,t6b,t7b,t44b,t45b,t46b,H6b,H7b,H18b,Hn18b,f1F7b,f2F7b]<;>rfl))
   ·rintro x t H e hx
    rcases o31 with⟨l6bx,l7bx⟩
    dsimp only at hx hh
    obtain⟨rfl,⟨v6bx,v7bx,v18bx,vn18bx,O7bx,C7bx,t3bx,t6bx,t7bx,H6bx,H7bx,H18bx,Hn18bx,F7bx⟩⟩:=hx
    have f1F7bx:=F7bx.fit
    have f2F7bx:=F7bx.eq
    simp only[bJ]at f1F7bx f2F7bx
    try simp only[aO,seval,-Int.reduceToNat,hr1,q4n,q4a,q19a,q19b,q19c,q19d,q19e,hr20,t3bx,t6bx,t7bx,H6bx,H7bx,H18bx,Hn18bx,f1F7bx,f2F7bx]
    obtain⟨o64,ho64,hh⟩:=ah hh
    refine aA (fun s t H e=>match s with|(l6c,l7c)=>∃v6c:Nat,∃v7c:Nat,∃v18c:Nat,∃vn18c:Nat,∃O7c:Nat,∃C7c:List D,t 3=.buf 18 v18c 1 0 (l18ax).length∧t 6=.buf 6 v6c 1 0 (l6c).length∧t 7=.buf 7 v7c 1 O7c (l7c).length∧H 6=some ⟨v6c,3,ae (eI .i64) l6c,false,true,false⟩∧H 7=some ⟨v7c,3,C7c,false,true,false⟩∧H 18=some ⟨v18c,33,[.nr 3 1 vn18c (ae (BN (eI .i64)) l18ax)],false,true,true⟩∧vn18c<=4*e∧sD (eI .i64) C7c O7c l7c) (fun o x t H e=>match o with|l6cx=>x=.exit 4∧∃v6cx:Nat,t 6=.buf 6 v6cx 1 0 (l6cx).length∧H 6=some ⟨v6cx,3,ae (eI .i64) l6cx,false,true,false⟩) ho64 ?_ ?_ ?_
    ·refine⟨v6bx,v7bx,v18bx,vn18bx,O7bx,C7bx,?_,?_,?_,?_,?_,?_,?_,F7bx⟩
     all_goals (first|rfl|omega|(simp only[aO,seval,-Int.reduceToNat,hr1,q4n,q4a,q19a,q19b,q19c,q19d,q19e,hr20,t3bx,t6bx,t7bx,H6bx,H7bx,H18bx,Hn18bx,f1F7bx,f2F7bx]<;>rfl))
    ·rintro⟨l6c,l7c⟩ t H e ⟨v6c,v7c,v18c,vn18c,O7c,C7c,t3c,t6c,t7c,H6c,H7c,H18c,Hn18c,F7c⟩ c hh
     simp only[ju]at hh
     have f1F7c:=F7c.fit
     have f2F7c:=F7c.eq
     simp only[bJ]at f1F7c f2F7c
     try simp only[aO,seval,-Int.reduceToNat,hr1,q4n,q4a,q19a,q19b,q19c,q19d,q19e,hr20,f1F7bx,f2F7bx,t3c,t6c,t7c,H6c,H7c,H18c,Hn18c,f1F7c,f2F7c]
     refine sp an hh (fun _ hh =>?_) (fun _ hh =>?_)
     ·obtain⟨x66,hx66,hh⟩:=ah hh
      have bx66:=oA hx66
      obtain⟨fx66,restx66,ax66⟩:=F7c.idx hx66
      simp only[bJ]at ax66 fx66
      obtain⟨x67,hx67,hh⟩:=ah hh
      obtain⟨q68a,q68b,q68c,q68d,q68e⟩:=V6 (eI .i64) hx67
      simp only[bJ]at q68e
      have q68F:=sD.tail F7c hx67
      obtain⟨x69,hx69,hh⟩:=ah hh
      have ax69:=bN (BN (eI .i64)) hx69
      simp only[bJ]at ax69
      try simp only[aO,seval,-Int.reduceToNat,hr1,q4n,q4a,q19a,q19b,q19c,q19d,q19e,hr20,f1F7bx,f2F7bx,t3c,t6c,t7c,H6c,H7c,H18c,Hn18c,f1F7c,f2F7c,bx66,ax66,fx66,q68a,q68b,q68c,q68e,ax69]
      obtain⟨o78,ho78,hh⟩:=ah hh
      refine aA (fun s t H e=>match s with|(s78e,l6e,l7e)=>∃v6e:Nat,∃v7e:Nat,∃v18e:Nat,∃vn18e:Nat,∃O7e:Nat,∃C7e:List D,t 3=.buf 18 v18e 1 0 (l18ax).length∧t 6=.buf 6 v6e 1 0 (l6e).length∧t 7=.buf 7 v7e 1 O7e (l7e).length∧t 10=.int .i64 x66∧t 76=.buf (NK 18 ((x66:Int).toNat*1)) vn18e 1 0 (x69).length∧t 77=.int .i64 ((x69).length:Int)∧t 78=.int .i64 s78e∧H 6=some ⟨v6e,3,ae (eI .i64) l6e,false,true,false⟩∧H 7=some ⟨v7e,3,C7e,false,true,false⟩∧H 18=some ⟨v18e,33,[.nr 3 1 vn18e (ae (BN (eI .i64)) l18ax)],false,true,true⟩∧vn18e<=4*e∧sD (eI .i64) C7e O7e l7e) (fun o x t H e=>match o with|(l6ex,l7ex)=>x=.exit 6∧∃v6ex:Nat,∃v7ex:Nat,∃v18ex:Nat,∃vn18ex:Nat,∃O7ex:Nat,∃C7ex:List D,t 3=.buf 18 v18ex 1 0 (l18ax).length∧t 6=.buf 6 v6ex 1 0 (l6ex).length∧t 7=.buf 7 v7ex 1 O7ex (l7ex).length∧H 6=some ⟨v6ex,3,ae (eI .i64) l6ex,false,true,false⟩∧H 7=some ⟨v7ex,3,C7ex,false,true,false⟩∧H 18=some ⟨v18ex,33,[.nr 3 1 vn18ex (ae (BN (eI .i64)) l18ax)],false,true,true⟩∧vn18ex<=4*e∧sD (eI .i64) C7ex O7ex l7ex) ho78 ?_ ?_ ?_
      ·refine⟨v6c,e+1+1,v18c,vn18c,(O7c+(1:Int).toNat*1),(C7c),?_,?_,?_,?_,?_,?_,?_,?_,?_,?_,?_,q68F⟩
       all_goals (first|rfl|omega|(simp only[aO,seval,-Int.reduceToNat,hr1,q4n,q4a,q19a,q19b,q19c,q19d,q19e,hr20,f1F7bx,f2F7bx,t3c,t6c,t7c,H6c,H7c,H18c,Hn18c,f1F7c,f2F7c,bx66,ax66,fx66,q68a,q68b,q68c,q68e,ax69,q68d]<;>rfl))
      ·rintro⟨s78e,l6e,l7e⟩ t H e ⟨v6e,v7e,v18e,vn18e,O7e,C7e,t3e,t6e,t7e,t10e,t76e,t77e,t78e,H6e,H7e,H18e,Hn18e,F7e⟩ c hh
       simp only[jv]at hh
       have f1F7e:=F7e.fit
       have f2F7e:=F7e.eq
       simp only[bJ]at f1F7e f2F7e
       try simp only[aO,seval,-Int.reduceToNat,hr1,q4n,q4a,q19a,q19b,q19c,q19d,q19e,hr20,f1F7bx,f2F7bx,f1F7c,f2F7c,bx66,ax66,fx66,q68a,q68b,q68c,q68e,ax69,q68d,t3e,t6e,t7e,t10e,t76e,t77e,t78e,H6e,H7e,H18e,Hn18e,f1F7e,f2F7e]
       refine sp an hh (fun _ hh =>?_) (fun _ hh =>?_)
       ·obtain⟨x80,hx80,hh⟩:=ah hh
        have ax80:=bN (eI .i64) hx80
        simp only[bJ]at ax80
        obtain⟨x81,hx81,hh⟩:=ah hh
        have ax81:=bN (eI .i64) hx81
        simp only[bJ]at ax81
        try simp only[aO,seval,-Int.reduceToNat,hr1,q4n,q4a,q19a,q19b,q19c,q19d,q19e,hr20,f1F7bx,f2F7bx,f1F7c,f2F7c,bx66,ax66,fx66,q68a,q68b,q68c,q68e,ax69,q68d,t3e,t6e,t7e,t10e,t76e,t77e,t78e,H6e,H7e,H18e,Hn18e,f1F7e,f2F7e,ax80,ax81]
        refine sp an hh (fun _ hh =>?_) (fun _ hh =>?_)
        ·obtain⟨x83,hx83,hh⟩:=ah hh
         have ax83:=bN (eI .i64) hx83
         simp only[bJ]at ax83
         have ax81:=bN (eI .i64) hx81
         simp only[bJ]at ax81
         have p84:=eN (eI .i64) (x':=IntKind.i64.wrap (x83+1)) (fo:=0) (cs:=[.int .i64 (IntKind.i64.wrap (x83+1))]) hx81 rfl (aej rfl)
         simp only[bJ,Nat.add_zero]at p84
         have up84:=p84
         simp only[putCells,List.length_cons,List.length_nil,adq,Nat.reduceAdd]at up84
         obtain⟨x85,hx85,hh⟩:=ah hh
         obtain⟨q86a,q86b,q86c,q86d⟩:=iK (eI .i64) hx85
         simp only[bJ]at q86b
         cases hh
         try simp only[aO,seval,-Int.reduceToNat,hr1,q4n,q4a,q19a,q19b,q19c,q19d,q19e,hr20,f1F7bx,f2F7bx,f1F7c,f2F7c,bx66,ax66,fx66,q68a,q68b,q68c,q68e,ax69,q68d,t3e,t6e,t7e,t10e,t76e,t77e,t78e,H6e,H7e,H18e,Hn18e,f1F7e,f2F7e,ax80,ax81,ax83,ax81,p84,up84,q86a,q86b,q86c,q86d]
         refine j5 ?_
         refine⟨v6e,e+1+1+1+1,v18e,vn18e,0,(ae (eI .i64) x85),?_,?_,?_,?_,?_,?_,?_,?_,?_,?_,?_,(sD.self (eI .i64) x85)⟩
         all_goals (first|rfl|omega|(simp only[aO,seval,-Int.reduceToNat,hr1,q4n,q4a,q19a,q19b,q19c,q19d,q19e,hr20,f1F7bx,f2F7bx,f1F7c,f2F7c,bx66,ax66,fx66,q68a,q68b,q68c,q68e,ax69,q68d,t3e,t6e,t7e,t10e,t76e,t77e,t78e,H6e,H7e,H18e,Hn18e,f1F7e,f2F7e,ax80,ax81,ax83,ax81,p84,up84,q86a,q86b,q86c,q86d]<;>rfl))
        ·cases hh
         try simp only[aO,seval,-Int.reduceToNat,hr1,q4n,q4a,q19a,q19b,q19c,q19d,q19e,hr20,f1F7bx,f2F7bx,f1F7c,f2F7c,bx66,ax66,fx66,q68a,q68b,q68c,q68e,ax69,q68d,t3e,t6e,t7e,t10e,t76e,t77e,t78e,H6e,H7e,H18e,Hn18e,f1F7e,f2F7e,ax80,ax81]
         refine j5 ?_
         refine⟨v6e,v7e,v18e,vn18e,O7e,C7e,?_,?_,?_,?_,?_,?_,?_,?_,?_,?_,?_,F7e⟩
         all_goals (first|rfl|omega|(simp only[aO,seval,-Int.reduceToNat,hr1,q4n,q4a,q19a,q19b,q19c,q19d,q19e,hr20,f1F7bx,f2F7bx,f1F7c,f2F7c,bx66,ax66,fx66,q68a,q68b,q68c,q68e,ax69,q68d,t3e,t6e,t7e,t10e,t76e,t77e,t78e,H6e,H7e,H18e,Hn18e,f1F7e,f2F7e,ax80,ax81]<;>rfl))
       ·cases hh
        try simp only[aO,seval,-Int.reduceToNat,hr1,q4n,q4a,q19a,q19b,q19c,q19d,q19e,hr20,f1F7bx,f2F7bx,f1F7c,f2F7c,bx66,ax66,fx66,q68a,q68b,q68c,q68e,ax69,q68d,t3e,t6e,t7e,t10e,t76e,t77e,t78e,H6e,H7e,H18e,Hn18e,f1F7e,f2F7e]
        refine ll ?_
        refine⟨rfl,⟨v6e,v7e,v18e,vn18e,O7e,C7e,?_,?_,?_,?_,?_,?_,?_,F7e⟩⟩
        all_goals (first|rfl|omega|(simp only[aO,seval,-Int.reduceToNat,hr1,q4n,q4a,q19a,q19b,q19c,q19d,q19e,hr20,f1F7bx,f2F7bx,f1F7c,f2F7c,bx66,ax66,fx66,q68a,q68b,q68c,q68e,ax69,q68d,t3e,t6e,t7e,t10e,t76e,t77e,t78e,H6e,H7e,H18e,Hn18e,f1F7e,f2F7e]<;>rfl))
      ·rintro x t H e hx
       rcases o78 with⟨l6ex,l7ex⟩
       dsimp only at hx hh
       obtain⟨rfl,⟨v6ex,v7ex,v18ex,vn18ex,O7ex,C7ex,t3ex,t6ex,t7ex,H6ex,H7ex,H18ex,Hn18ex,F7ex⟩⟩:=hx
       have f1F7ex:=F7ex.fit
       have f2F7ex:=F7ex.eq
       simp only[bJ]at f1F7ex f2F7ex
       cases hh
       try simp only[aO,seval,-Int.reduceToNat,hr1,q4n,q4a,q19a,q19b,q19c,q19d,q19e,hr20,f1F7bx,f2F7bx,f1F7c,f2F7c,bx66,ax66,fx66,q68a,q68b,q68c,q68e,ax69,q68d,q68d,t3ex,t6ex,t7ex,H6ex,H7ex,H18ex,Hn18ex,f1F7ex,f2F7ex]
       refine j5 ?_
       refine⟨v6ex,v7ex,v18ex,vn18ex,O7ex,C7ex,?_,?_,?_,?_,?_,?_,?_,F7ex⟩
       all_goals (first|rfl|omega|(simp only[aO,seval,-Int.reduceToNat,hr1,q4n,q4a,q19a,q19b,q19c,q19d,q19e,hr20,f1F7bx,f2F7bx,f1F7c,f2F7c,bx66,ax66,fx66,q68a,q68b,q68c,q68e,ax69,q68d,q68d,t3ex,t6ex,t7ex,H6ex,H7ex,H18ex,Hn18ex,f1F7ex,f2F7ex]<;>rfl))
     ·cases hh
      try simp only[aO,seval,-Int.reduceToNat,hr1,q4n,q4a,q19a,q19b,q19c,q19d,q19e,hr20,f1F7bx,f2F7bx,t3c,t6c,t7c,H6c,H7c,H18c,Hn18c,f1F7c,f2F7c]
      refine ll ?_
      refine⟨rfl,⟨v6c,?_,?_⟩⟩
      all_goals first|rfl|(simp only[aO,seval,-Int.reduceToNat,hr1,q4n,q4a,q19a,q19b,q19c,q19d,q19e,hr20,f1F7bx,f2F7bx,t3c,t6c,t7c,H6c,H7c,H18c,Hn18c,f1F7c,f2F7c]<;>rfl)
    ·rintro x t H e hx
     obtain⟨l6cx,rfl⟩:∃z,z=o64:=⟨_,rfl⟩
     dsimp only at hx hh
     obtain⟨rfl,⟨v6cx,Zcx⟩⟩:=hx
     cases hh
     try simp only[aO,seval,-Int.reduceToNat,hr1,q4n,q4a,q19a,q19b,q19c,q19d,q19e,hr20,f1F7bx,f2F7bx,Zcx]
theorem Iu:bW Try.prog 45 sR:=bW.of (mode := .clean) tok HW mixed Try.func45 (by kernel_rfl) ⟨by kernel_rfl,by kernel_rfl⟩ (fun _=>aej (by kernel_rfl)) (fun x r h=>LW x r h)
noncomputable def pP:=fU (fQ (de mD)) (fun x:bR=>gV x) (fun r:(List Int) =>.clean (.sl false false r.length (ae (eI .i64) r)))
theorem vS (p0_0:Int) (p0_1:(List dk)):pP none [.agg [.int .i64 p0_0,.sl false false p0_1.length (ae ba p0_1)]]=(gV (bR.mk p0_0 p0_1)).map fun r:(List Int)=>(.clean (.sl false false r.length (ae (eI .i64) r)),none):=aV _ _ _ ((bR.mk p0_0 p0_1))
noncomputable def mm:Env:=(Am.ext a6 45 false sR)
theorem Cc:bC Try.prog mm:=(bC.none.add Iu false)
theorem dx:type_of% (ai @w<|ai @zN<|@mm.eq_1):=⟨@w,@zN,@mm.eq_1⟩
theorem D4 (p0:bR) (r:(List Int)) (hh:gV p0=some r):a7 .clean tab mm FU Try.f14 none [.agg [.int .i64 p0.aG,.sl false false p0.ax.length (ae ba p0.ax)]]=some (.clean (.sl false false r.length (ae (eI .i64) r)),none):=by
 refine aB rfl Try.ntmps14 Try.results14 ?_
 unfold gV at hh
 obtain⟨r1,hr1,hh⟩:=ah hh
 try simp only[dx,seval,hr1]
 obtain⟨o7,ho7,hh⟩:=ah hh
 refine aA (fun s t H e=>match s with|(s9a,l3a)=>∃v3a:Nat,t 3=.buf 3 v3a 1 0 (l3a).length∧t 7=.sl false false r1.length (ae (eI .i64) r1)∧t 8=.int .i64 (r1.length:Int)∧t 9=.int .i64 s9a∧H 3=some ⟨v3a,3,ae (eI .i64) l3a,false,true,false⟩) (fun o x t H e=>match o with|l3ax=>x=.exit 0∧∃v3ax:Nat,t 3=.buf 3 v3ax 1 0 (l3ax).length∧H 3=some ⟨v3ax,3,ae (eI .i64) l3ax,false,true,false⟩) ho7 ?_ ?_ ?_
 ·refine⟨1,?_,?_,?_,?_,?_⟩
  all_goals first|rfl|(simp only[dx,seval,hr1]<;>rfl)
 ·rintro⟨s9a,l3a⟩ t H e ⟨v3a,Za⟩ c hh
  simp only[gN]at hh
  try simp only[dx,seval,hr1,Za]
  refine sp an hh (fun _ hh =>?_) (fun _ hh =>?_)
  ·obtain⟨x9,hx9,hh⟩:=ah hh
   have ax9:=bN (eI .i64) hx9
   simp only[bJ]at ax9
   try simp only[dx,seval,hr1,Za,ax9]
   refine sp an hh (fun _ hh =>?_) (fun _ hh =>?_)
   ·obtain⟨x11,hx11,hh⟩:=ah hh
    obtain⟨q12a,q12b,q12c,q12d⟩:=iK (eI .i64) hx11
    simp only[bJ]at q12b
    cases hh
    try simp only[dx,seval,hr1,Za,ax9,q12a,q12b,q12c,q12d]
    refine j5 ?_
    refine⟨e+1+1+1,?_,?_,?_,?_,?_⟩
    all_goals first|rfl|(simp only[dx,seval,hr1,Za,ax9,q12a,q12b,q12c,q12d]<;>rfl)
   ·cases hh
    try simp only[dx,seval,hr1,Za,ax9]
    refine j5 ?_
    refine⟨v3a,?_,?_,?_,?_,?_⟩
    all_goals first|rfl|(simp only[dx,seval,hr1,Za,ax9]<;>rfl)
  ·cases hh
   try simp only[dx,seval,hr1,Za]
   refine ll ?_
   refine⟨rfl,⟨v3a,?_,?_⟩⟩
   all_goals first|rfl|(simp only[dx,seval,hr1,Za]<;>rfl)
 ·rintro x t H e hx
  obtain⟨l3ax,rfl⟩:∃z,z=o7:=⟨_,rfl⟩
  dsimp only at hx hh
  obtain⟨rfl,⟨v3ax,Zax⟩⟩:=hx
  cases hh
  try simp only[dx,seval,hr1,Zax]
theorem CU:bW Try.prog 14 pP:=bW.of (mode := .clean) tok Cc mixed Try.func14 (by kernel_rfl) ⟨by kernel_rfl,by kernel_rfl⟩ (fun _=>aej (by kernel_rfl)) (fun x r h=>D4 x r h)
noncomputable def kS:=fU (jg (de mD) (fQ (mX ay))) (fun x:bR×(List ak)=>cF x.1 x.2) (fun r:(List aq) =>.clean (.sl false false r.length (ae cz r)))
theorem pD (p0_0:Int) (p0_1:(List dk)) (p1:(List ak)):kS none [.agg [.int .i64 p0_0,.sl false false p0_1.length (ae ba p0_1)],.sl false false p1.length (ae ay p1)]=(cF (bR.mk p0_0 p0_1) p1).map fun r:(List aq)=>(.clean (.sl false false r.length (ae cz r)),none):=aV _ _ _ ((bR.mk p0_0 p0_1),p1)
noncomputable def iN:Env:=(Am.xA 11 (74,5,4) a6)
theorem ox:bC Try.prog iN:=(bC.xA bC.none 11 (74,5,4))
theorem bl:type_of% (ai @w<|@iN.eq_1):=⟨@w,@iN.eq_1⟩
theorem pr (p0:bR) (p1:(List ak)) (r:(List aq)) (hh:cF p0 p1=some r):se tab iN FU Try.f40 [.agg [.int .i64 p0.aG,.sl false false p0.ax.length (ae ba p0.ax)],.sl false false p1.length (ae ay p1)]=some (69,74,5,5,r.length,ae aD r):=by
 refine TI rfl Try.ntmps40 Try.results40 ?_
 unfold cF at hh
 obtain⟨x1,hx1,hh⟩:=ah hh
 have q2n:=Rx (E:=aD) (ty':=74) (s:=5) (f:=4) (k := .i64) PB (by rfl) rfl rfl rfl rfl rfl hx1
 obtain⟨q2a,q2b,q2c,q2d,q2e⟩:=mk_one aD hx1
 try simp only[bl,seval,q2n,q2a]
 obtain⟨o8,ho8,hh⟩:=ah hh
 refine aA (fun s t H e=>match s with|(s14a,l11a)=>∃v2a:Nat,∃v11a:Nat,∃vn11a:Nat,t 1=.sl false false p1.length (ae ay p1)∧t 2=.ptr 2 v2a 0∧t 5=.buf 11 v11a 5 0 (l11a).length∧t 13=.int .i64 ((x1).length:Int)∧t 14=.int .i64 s14a∧H 2=some ⟨v2a,24,[.int .i64 p0.aG,.sl false false p0.ax.length (ae ba p0.ax)],false,false,false⟩∧H 11=some ⟨v11a,69,[.nr 74 5 vn11a (ae aD l11a)],false,true,true⟩∧vn11a<=4*e) (fun o x t H e=>match o with|l11ax=>x=.exit 0∧∃v2ax:Nat,∃v11ax:Nat,∃vn11ax:Nat,t 2=.ptr 2 v2ax 0∧t 5=.buf 11 v11ax 5 0 (l11ax).length∧H 2=some ⟨v2ax,24,[.int .i64 p0.aG,.sl false false p0.ax.length (ae ba p0.ax)],false,false,false⟩∧H 11=some ⟨v11ax,69,[.nr 74 5 vn11ax (ae aD l11ax)],false,true,true⟩∧vn11ax<=4*e) ho8 ?_ ?_ ?_
 ·refine⟨0,1,4*(1)+2,?_,?_,?_,?_,?_,?_,?_,?_⟩
  all_goals (first|rfl|omega|(simp only[bl,seval,q2n,q2a]<;>rfl))
 ·rintro⟨s14a,l11a⟩ t H e ⟨v2a,v11a,vn11a,Za⟩ c hh
  simp only[fF]at hh
  try simp only[bl,seval,q2n,q2a,Za]
  refine sp an hh (fun _ hh =>?_) (fun _ hh =>?_)
  ·obtain⟨x10,hx10,hh⟩:=ah hh
   have ax10:=bN ay hx10
   simp only[bJ]at ax10
   obtain⟨x11,hx11,hh⟩:=ah hh
   have ax11:=bN aD hx11
   simp only[bJ]at ax11
   have fq13:=il aD 0 4 (aej rfl) hx11
   simp only[bJ,Nat.add_zero]at fq13
   have p12:=eN aD (x':=(aq.mk x10 x11.bk)) (fo:=0) (cs:=[.int .i64 x10.aH.ag,.sl false false x10.aH.aa.length (ae (eI .i64) x10.aH.aa),.int .i64 x10.aJ.ag,.sl false false x10.aJ.aa.length (ae (eI .i64) x10.aJ.aa)]) hx11 rfl (aej rfl)
   simp only[bJ,Nat.add_zero]at p12
   have up12:=p12
   simp only[putCells,List.length_cons,List.length_nil,adq,Nat.reduceAdd]at up12
   cases hh
   try simp only[bl,seval,q2n,q2a,Za,ax10,ax11,fq13,p12,up12]
   refine j5 ?_
   refine⟨v2a,v11a,vn11a,?_,?_,?_,?_,?_,?_,?_,?_⟩
   all_goals (first|rfl|omega|(simp only[bl,seval,q2n,q2a,Za,ax10,ax11,fq13,p12,up12]<;>rfl))
  ·cases hh
   try simp only[bl,seval,q2n,q2a,Za]
   refine ll ?_
   refine⟨rfl,⟨v2a,v11a,vn11a,?_,?_,?_,?_,?_⟩⟩
   all_goals (first|rfl|omega|(simp only[bl,seval,q2n,q2a,Za]<;>rfl))
 ·rintro x t H e hx
  obtain⟨l11ax,rfl⟩:∃z,z=o8:=⟨_,rfl⟩
  dsimp only at hx hh
  obtain⟨rfl,⟨v2ax,v11ax,vn11ax,Zax⟩⟩:=hx
  try simp only[bl,seval,q2n,q2a,Zax]
  obtain⟨o22,ho22,hh⟩:=ah hh
  refine aA (fun s t H e=>match s with|(s29b,l11b)=>∃v11b:Nat,∃vn11b:Nat,t 5=.buf 11 v11b 5 0 (l11b).length∧t 27=.sl false false p0.ax.length (ae ba p0.ax)∧t 28=.int .i64 (p0.ax.length:Int)∧t 29=.int .i64 s29b∧H 11=some ⟨v11b,69,[.nr 74 5 vn11b (ae aD l11b)],false,true,true⟩∧vn11b<=4*e) (fun o x t H e=>match o with|l11bx=>x=.exit 2∧∃v11bx:Nat,∃vn11bx:Nat,t 5=.buf 11 v11bx 5 0 (l11bx).length∧H 11=some ⟨v11bx,69,[.nr 74 5 vn11bx (ae aD l11bx)],false,true,true⟩∧vn11bx<=4*e) ho22 ?_ ?_ ?_
  ·refine⟨v11ax,vn11ax,?_,?_,?_,?_,?_,?_⟩
   all_goals (first|rfl|omega|(simp only[bl,seval,q2n,q2a,Zax]<;>rfl))
  ·rintro⟨s29b,l11b⟩ t H e ⟨v11b,vn11b,Zb⟩ c hh
   simp only[fG]at hh
   try simp only[bl,seval,q2n,q2a,Zb]
   refine sp an hh (fun _ hh =>?_) (fun _ hh =>?_)
   ·obtain⟨x24,hx24,hh⟩:=ah hh
    have ax24:=bN ba hx24
    simp only[bJ]at ax24
    obtain⟨x25,hx25,hh⟩:=ah hh
    have ax25:=bN aD hx25
    simp only[bJ]at ax25
    have aq26:=iW aD 4 hx25
    have fq26:=il aD 4 1 (aej rfl) hx25
    simp only[bJ]at aq26 fq26
    obtain⟨x27,hx27,hh⟩:=ah hh
    obtain⟨q28a,q28b,q28c,q28d⟩:=iK bm hx27
    simp only[bJ]at q28b
    have ax25:=bN aD hx25
    simp only[bJ]at ax25
    have aq29:=iW aD 4 hx25
    have fq29:=il aD 4 1 (aej rfl) hx25
    simp only[bJ]at aq29 fq29
    have p30:=MM aD (x':=(aq.mk x25.aP x27)) 4 .und (.nx x27.length (ae bm x27)) hx25 rfl (aej rfl)
    have lp30:=RJ aD 4 .und hx25 (aej rfl)
    simp only[bJ,Nat.add_zero]at p30 lp30
    have up30:=p30
    simp only[putCells,List.length_cons,List.length_nil,adq,Nat.reduceAdd]at up30
    have ulp30:=lp30
    simp only[putCells,List.length_cons,List.length_nil,adq,Nat.reduceAdd]at ulp30
    have bp30:oR vn11b (e+1+1)=some (4*(e+1+1)+1):=jj (by omega)
    try simp only[bl,seval,q2n,q2a,Zb,ax24,ax25,aq26,fq26,q28a,q28b,q28c,q28d,ax25,aq29,fq29,p30,up30,lp30,ulp30,bp30]
    refine bo (by kernel_rfl) ?_
    cases hh
    try simp only[bl,seval,q2n,q2a,Zb,ax24,ax25,aq26,fq26,q28a,q28b,q28c,q28d,ax25,aq29,fq29,p30,up30,lp30,ulp30,bp30]
    refine j5 ?_
    refine⟨v11b,4*(e+1+1)+1,?_,?_,?_,?_,?_,?_⟩
    all_goals (first|rfl|omega|(simp only[bl,seval,q2n,q2a,Zb,ax24,ax25,aq26,fq26,q28a,q28b,q28c,q28d,ax25,aq29,fq29,p30,up30,lp30,ulp30,bp30]<;>rfl))
   ·cases hh
    try simp only[bl,seval,q2n,q2a,Zb]
    refine ll ?_
    refine⟨rfl,⟨v11b,vn11b,?_,?_,?_⟩⟩
    all_goals (first|rfl|omega|(simp only[bl,seval,q2n,q2a,Zb]<;>rfl))
  ·rintro x t H e hx
   obtain⟨l11bx,rfl⟩:∃z,z=o22:=⟨_,rfl⟩
   dsimp only at hx hh
   obtain⟨rfl,⟨v11bx,vn11bx,Zbx⟩⟩:=hx
   cases hh
   try simp only[bl,seval,q2n,q2a,Zbx]
theorem wE:bW Try.prog 40 kS:=bW.ofW (E:=cz) (EN:=aD) (ty:=69) (t:=74) (s:=5) tok ox mixed Try.func40 (by kernel_rfl) ⟨by kernel_rfl,by kernel_rfl⟩ (fun _=>aej (by kernel_rfl)) rfl (fun _=>rfl) (fun x=>by simp[cQ,vv,eY,bG,Aw,qY,uy,xe,th,lV,qZ,oX,oY,q8,oZ,j1]) (fun x r h=>pr x.1 x.2 r h)
noncomputable def j8:=b6 (jg (de mD) (fQ (mX ay))) (fun x:bR×(List ak)=>cF x.1 x.2) (fun r:(List aq)=>(69,74,5,5,r.length,ae aD r))
theorem oJ (p0_0:Int) (p0_1:(List dk)) (p1:(List ak)):j8 [.agg [.int .i64 p0_0,.sl false false p0_1.length (ae ba p0_1)],.sl false false p1.length (ae ay p1)]=(cF (bR.mk p0_0 p0_1) p1).map fun r:(List aq)=>(69,74,5,5,r.length,ae aD r):=Zx _ _ _ ((bR.mk p0_0 p0_1),p1)
theorem nd:FOk Try.prog 40 j8:=FOk.of tok ox mixed Try.func40 (by kernel_rfl) ⟨by kernel_rfl,by kernel_rfl⟩ (fun _=>aej (by kernel_rfl)) (fun x r h=>pr x.1 x.2 r h)
noncomputable def gI:=fU (jg (de bm) (fQ (aI .i64))) (fun x:dz×Int=>ck x.1 x.2) (fun r:Int =>.clean (.int .i64 r))
theorem kG (p0_0:Int) (p0_1:Int) (p0_2:(List Int)) (p0_3:Int) (p0_4:(List Int)) (p1:Int):gI none [.agg [.int .i64 p0_0,.int .i64 p0_1,.sl false false p0_2.length (ae (eI .i64) p0_2),.int .i64 p0_3,.sl false false p0_4.length (ae (eI .i64) p0_4)],.int .i64 p1]=(ck (dz.mk p0_0 (ak.mk (al.mk p0_1 p0_2) (al.mk p0_3 p0_4))) p1).map fun r:Int=>(.clean (.int .i64 r),none):=aV _ _ _ ((dz.mk p0_0 (ak.mk (al.mk p0_1 p0_2) (al.mk p0_3 p0_4))),p1)
noncomputable def eM:Env:=(Am.ext a6 66 false iu)
theorem pT:bC Try.prog eM:=(bC.none.add lx false)
theorem qu:type_of% (ai @w<|ai @fk<|@eM.eq_1):=⟨@w,@fk,@eM.eq_1⟩
theorem qe (p0:dz) (p1:Int) (r:Int) (hh:ck p0 p1=some r):a7 .clean tab eM FU Try.f98 none [.agg [.int .i64 p0.ke,.int .i64 p0.dC.aH.ag,.sl false false p0.dC.aH.aa.length (ae (eI .i64) p0.dC.aH.aa),.int .i64 p0.dC.aJ.ag,.sl false false p0.dC.aJ.aa.length (ae (eI .i64) p0.dC.aJ.aa)],.int .i64 p1]=some (.clean (.int .i64 r),none):=by
 refine aB rfl Try.ntmps98 Try.results98 ?_
 unfold ck at hh
 obtain⟨r1,hr1,hh⟩:=ah hh
 cases hh
 try simp only[qu,seval,hr1]
theorem pV:bW Try.prog 98 gI:=bW.of (mode := .clean) tok pT mixed Try.func98 (by kernel_rfl) ⟨by kernel_rfl,by kernel_rfl⟩ (fun _=>aej (by kernel_rfl)) (fun x r h=>qe x.1 x.2 r h)
noncomputable def bY:=fU (jg (mX bm) (jg (aI .i64) (fQ (Z7 98)))) (fun x:(List dz)×Int×Unit=>aQ x.1 x.2.1) (fun r:Int×Bool =>.clean (.tup [.int .i64 r.1,.bool r.2]))
theorem dm (p0:(List dz)) (p1:Int):bY none [.sl false false p0.length (ae bm p0),.int .i64 p1,.fn 98]=(aQ p0 p1).map fun r:Int×Bool=>(.clean (.tup [.int .i64 r.1,.bool r.2]),none):=aV _ _ _ (p0,p1,())
noncomputable def bD:Env:=(Am.ext a6 98 false gI)
theorem fR:bC Try.prog bD:=(bC.none.add pV false)
theorem aw:type_of% (ai @w<|ai @kG<|@bD.eq_1):=⟨@w,@kG,@bD.eq_1⟩
theorem gi (p0:(List dz)) (p1:Int) (r:Int×Bool) (hh:aQ p0 p1=some r):a7 .clean tab bD FU Try.f97 none [.sl false false p0.length (ae bm p0),.int .i64 p1,.fn 98]=some (.clean (.tup [.int .i64 r.1,.bool r.2]),none):=by
 refine aB rfl Try.ntmps97 Try.results97 ?_
 unfold aQ at hh
 try simp only[aw,seval,-Int.reduceToNat]
 obtain⟨o7,ho7,hh⟩:=ah hh
 refine aA (fun s t H e=>match s with|(s9a,s10a)=>t 0=.sl false false p0.length (ae bm p0)∧t 1=.int .i64 p1∧t 2=.fn 98∧t 8=.int .i64 (p0.length:Int)∧t 9=.int .i64 s9a∧t 10=.int .i64 s10a) (fun o x t H e=>match o with|s9ax=>x=.exit 0∧t 0=.sl false false p0.length (ae bm p0)∧t 1=.int .i64 p1∧t 2=.fn 98∧t 8=.int .i64 (p0.length:Int)∧t 9=.int .i64 s9ax) ho7 ?_ ?_ ?_
 ·refine⟨?_,?_,?_,?_,?_,?_⟩
  all_goals first|rfl|(simp only[aw,seval,-Int.reduceToNat]<;>rfl)
 ·rintro⟨s9a,s10a⟩ t H e Za c hh
  simp only[bz]at hh
  try simp only[aw,seval,-Int.reduceToNat,Za]
  refine sp an hh (fun _ hh =>?_) (fun _ hh =>?_)
  ·obtain⟨x9,hx9,hh⟩:=ah hh
   have q10:=sa hx9
   obtain⟨x11,hx11,hh⟩:=ah hh
   have ax11:=bN bm hx11
   simp only[bJ]at ax11
   obtain⟨r12,hr12,hh⟩:=ah hh
   try simp only[aw,seval,-Int.reduceToNat,Za,q10,ax11,hr12]
   refine sp an hh (fun _ hh =>?_) (fun _ hh =>?_)
   ·cases hh
    try simp only[aw,seval,-Int.reduceToNat,Za,q10,ax11,hr12]
    refine j5 ?_
    refine⟨?_,?_,?_,?_,?_,?_⟩
    all_goals first|rfl|(simp only[aw,seval,-Int.reduceToNat,Za,q10,ax11,hr12]<;>rfl)
   ·cases hh
    try simp only[aw,seval,-Int.reduceToNat,Za,q10,ax11,hr12]
    refine j5 ?_
    refine⟨?_,?_,?_,?_,?_,?_⟩
    all_goals first|rfl|(simp only[aw,seval,-Int.reduceToNat,Za,q10,ax11,hr12]<;>rfl)
  ·cases hh
   try simp only[aw,seval,-Int.reduceToNat,Za]
   refine ll ?_
   refine⟨rfl,⟨?_,?_,?_,?_,?_⟩⟩
   all_goals first|rfl|(simp only[aw,seval,-Int.reduceToNat,Za]<;>rfl)
 ·rintro x t H e hx
  obtain⟨s9ax,rfl⟩:∃z,z=o7:=⟨_,rfl⟩
  dsimp only at hx hh
  obtain⟨rfl,Zax⟩:=hx
  try simp only[aw,seval,-Int.reduceToNat,Zax]
  refine sp dW hh (fun _ hh =>?_) (fun _ hh =>?_)
  ·obtain⟨x15,hx15,hh⟩:=ah hh
   have ax15:=bN bm hx15
   simp only[bJ]at ax15
   obtain⟨r16,hr16,hh⟩:=ah hh
   cases hh
   try simp only[aw,seval,-Int.reduceToNat,Zax,ax15,hr16]
  ·cases hh
   try simp only[aw,seval,-Int.reduceToNat,Zax]
theorem fS:bW Try.prog 97 bY:=bW.of (mode := .clean) tok fR mixed Try.func97 (by kernel_rfl) ⟨by kernel_rfl,by kernel_rfl⟩ (fun _=>aej (by kernel_rfl)) (fun x r h=>gi x.1 x.2.1 r h)
noncomputable def dQ:=D8 69 74 5 aD (fQ (aI .i64)) (fun (q:aq) (x:Int)=>cm q x) (fun r:Int×Bool =>.tup [.int .i64 r.1,.bool r.2])
theorem ib (pre post:List D) (p0:aq) (p1:Int):dQ 69 74 5 pre.length (pre++(aD.cells p0++post)) [.int .i64 p1]=(cm p0 p1).map fun r=>(.tup [.int .i64 r.2.1,.bool r.2.2],pre++(aD.cells r.1++post)):=Ik _ _ _ _ _ _ _ pre post p0 (p1)
noncomputable def fJ:Env:=(Am.ext a6 97 false bY)
theorem rF:bC Try.prog fJ:=(bC.none.add fS false)
theorem sL:type_of% (ai @w<|ai @YX<|ai @dm<|@fJ.eq_1):=⟨@w,@YX,@dm,@fJ.eq_1⟩
theorem sI (pre post:List D) (p0:aq) (p1:Int) (r:aq×(Int×Bool)) (hh:cm p0 p1=some r):sf tab fJ FU Try.f69 69 74 5 pre.length (pre++(aD.cells p0++post)) [.int .i64 p1]=some (.tup [.int .i64 r.2.1,.bool r.2.2],pre++(aD.cells r.1++post)):=by
 refine vf rfl Try.ntmps69 Try.results69 ?_
 rw[cQ]
 unfold cm at hh
 obtain⟨r1,hr1,hh⟩:=ah hh
 cases hh
 try simp only[sL,seval,hr1]
theorem cU:W3 Try.prog 69 dQ:=W3.of tok rF mixed Try.func69 (by kernel_rfl) ⟨by kernel_rfl,by kernel_rfl⟩ (fun _=>aej (by kernel_rfl)) (fun pre post q x q' r h=>sI pre post q x (q',r) h)
noncomputable def iJ:=YH 74 bm (jg (aI .i64) (fQ (aI .i64))) (fun (l:(List dz)) (x:Int×Int)=>fm l x.1 x.2)
theorem pB (pre post:List D) (p0:(List dz)) (p1 p2:Int):iJ (some (.buf 0 0 5 pre.length p0.length,⟨0,74,pre++(ae bm p0++post),false,true,false⟩)) [.int .i64 p1,.int .i64 p2]=(fm p0 p1 p2).map fun r=>(.fresh 74 5 r.length (ae bm r),none):=VB _ _ _ _ pre post p0 (p1,p2)
theorem oI:bW Try.prog 70 iJ:=Xi bm rfl
noncomputable def v5:=fU (jg (de ay) (fQ (de ay))) (fun x:ak×ak=>ld x.1 x.2) (fun r:ak×Int =>.clean (.tup [.agg [.int .i64 r.1.aH.ag,.sl false false r.1.aH.aa.length (ae (eI .i64) r.1.aH.aa),.int .i64 r.1.aJ.ag,.sl false false r.1.aJ.aa.length (ae (eI .i64) r.1.aJ.aa)],.int .i64 r.2]))
theorem C5 (p0_0:Int) (p0_1:(List Int)) (p0_2:Int) (p0_3:(List Int)) (p1_0:Int) (p1_1:(List Int)) (p1_2:Int) (p1_3:(List Int)):v5 none [.agg [.int .i64 p0_0,.sl false false p0_1.length (ae (eI .i64) p0_1),.int .i64 p0_2,.sl false false p0_3.length (ae (eI .i64) p0_3)],.agg [.int .i64 p1_0,.sl false false p1_1.length (ae (eI .i64) p1_1),.int .i64 p1_2,.sl false false p1_3.length (ae (eI .i64) p1_3)]]=(ld (ak.mk (al.mk p0_0 p0_1) (al.mk p0_2 p0_3)) (ak.mk (al.mk p1_0 p1_1) (al.mk p1_2 p1_3))).map fun r:ak×Int=>(.clean (.tup [.agg [.int .i64 r.1.aH.ag,.sl false false r.1.aH.aa.length (ae (eI .i64) r.1.aH.aa),.int .i64 r.1.aJ.ag,.sl false false r.1.aJ.aa.length (ae (eI .i64) r.1.aJ.aa)],.int .i64 r.2]),none):=aV _ _ _ ((ak.mk (al.mk p0_0 p0_1) (al.mk p0_2 p0_3)),(ak.mk (al.mk p1_0 p1_1) (al.mk p1_2 p1_3)))
noncomputable def rf:Env:=(Am.ext (Am.ext (Am.ext a6 22 false ew) 48 false jh) 49 false nZ)
theorem KD:bC Try.prog rf:=(((bC.none.add fi false).add mo false).add tG false)
theorem eX:type_of% (ai @w<|ai @cl<|ai @gm<|ai @l6<|@rf.eq_1):=⟨@w,@cl,@gm,@l6,@rf.eq_1⟩
theorem OO (p0:ak) (p1:ak) (r:ak×Int) (hh:ld p0 p1=some r):a7 .clean tab rf FU Try.f71 none [.agg [.int .i64 p0.aH.ag,.sl false false p0.aH.aa.length (ae (eI .i64) p0.aH.aa),.int .i64 p0.aJ.ag,.sl false false p0.aJ.aa.length (ae (eI .i64) p0.aJ.aa)],.agg [.int .i64 p1.aH.ag,.sl false false p1.aH.aa.length (ae (eI .i64) p1.aH.aa),.int .i64 p1.aJ.ag,.sl false false p1.aJ.aa.length (ae (eI .i64) p1.aJ.aa)]]=some (.clean (.tup [.agg [.int .i64 r.1.aH.ag,.sl false false r.1.aH.aa.length (ae (eI .i64) r.1.aH.aa),.int .i64 r.1.aJ.ag,.sl false false r.1.aJ.aa.length (ae (eI .i64) r.1.aJ.aa)],.int .i64 r.2]),none):=by
 refine aB rfl Try.ntmps71 Try.results71 ?_
 unfold ld at hh
 obtain⟨r1,hr1,hh⟩:=ah hh
 try simp only[eX,seval,hr1]
 obtain⟨o2,ho2,hh⟩:=ah hh
 refine bS 0 (fun s t H e=>match s with|s6j1=>∃v2j1:Nat,∃v3j1:Nat,∃v4j1:Nat,t 2=.ptr 2 v2j1 0∧t 3=.ptr 3 v3j1 0∧t 4=.ptr 4 v4j1 0∧t 6=.bool s6j1∧H 2=some ⟨v2j1,41,[.int .i64 p0.aH.ag,.sl false false p0.aH.aa.length (ae (eI .i64) p0.aH.aa),.int .i64 p0.aJ.ag,.sl false false p0.aJ.aa.length (ae (eI .i64) p0.aJ.aa)],false,false,false⟩∧H 3=some ⟨v3j1,41,[.int .i64 p1.aH.ag,.sl false false p1.aH.aa.length (ae (eI .i64) p1.aH.aa),.int .i64 p1.aJ.ag,.sl false false p1.aJ.aa.length (ae (eI .i64) p1.aJ.aa)],false,false,false⟩∧H 4=some ⟨v4j1,41,[.int .i64 0,.sl true true 0 [],.int .i64 0,.sl true true 0 []],false,false,false⟩) (fun s=>s=o2) ?_ ?_
 ·rintro s6j1 t H e ⟨v2j1,v3j1,v4j1,Zj1⟩ rfl
  try dsimp only at hh
  try simp only[eX,seval,hr1,Zj1]
  refine sp an hh (fun _ hh =>?_) (fun _ hh =>?_)
  ·cases hh
   try simp only[eX,seval,hr1,Zj1]
  ·try simp only[eX,seval,hr1,Zj1]
   refine sp an hh (fun _ hh =>?_) (fun _ hh =>?_)
   ·cases hh
    try simp only[eX,seval,hr1,Zj1]
   ·obtain⟨r5,hr5,hh⟩:=ah hh
    obtain⟨r6,hr6,hh⟩:=ah hh
    obtain⟨r7,hr7,hh⟩:=ah hh
    try simp only[eX,seval,hr1,Zj1,hr5,hr6,hr7]
    refine bo (by kernel_rfl) ?_
    cases hh
    try simp only[eX,seval,hr1,Zj1,hr5,hr6,hr7]
 ·clear hh
  have hh:=ho2
  try simp only[eX,seval,hr1]
  refine sp bB hh (fun _ hh =>?_) (fun _ hh =>?_)
  ·cases hh
   try simp only[eX,seval,hr1]
   rw[au]
   refine⟨_,rfl,?_⟩
   refine⟨0,0,0,?_,?_,?_,?_,?_,?_,?_⟩
   all_goals first|rfl|(simp only[eX,seval,hr1]<;>rfl)
  ·obtain⟨r9,hr9,hh⟩:=ah hh
   cases hh
   try simp only[eX,seval,hr1,hr9]
   rw[au]
   refine⟨_,rfl,?_⟩
   refine⟨0,0,0,?_,?_,?_,?_,?_,?_,?_⟩
   all_goals first|rfl|(simp only[eX,seval,hr1,hr9]<;>rfl)
theorem My:bW Try.prog 71 v5:=bW.of (mode := .clean) tok KD mixed Try.func71 (by kernel_rfl) ⟨by kernel_rfl,by kernel_rfl⟩ (fun _=>aej (by kernel_rfl)) (fun x r h=>OO x.1 x.2 r h)
noncomputable def gG:=D8 69 74 5 aD (fQ (aI .i64)) (fun (q:aq) (x:Int)=>cX q x) (fun r:Unit =>.tup [])
noncomputable def fb:Env:=(Am.ext (Am.ext (Am.nF 69 (0,dQ) (Am.ext (Am.ext a6 30 false qA) 44 false ka)) 70 true iJ) 71 false v5)
theorem p9:bC Try.prog fb:=(((bC.nF ((bC.none.add zD false).add mQ false) cU.callable cU.calls).add oI true).add My false)
theorem bc:type_of% (ai @w<|ai @YX<|ai @YW<|ai @rO<|ai @gw<|ai @C5<|@fb.eq_1):=⟨@w,@YX,@YW,@rO,@gw,@C5,@fb.eq_1⟩
theorem rI (pre post:List D) (p0:aq) (p1:Int) (r:aq×(Unit)) (hh:cX p0 p1=some r):sf tab fb FU Try.f41 69 74 5 pre.length (pre++(aD.cells p0++post)) [.int .i64 p1]=some (.tup [],pre++(aD.cells r.1++post)):=by
 refine vf rfl Try.ntmps41 Try.results41 ?_
 rw[cQ]
 unfold cX at hh
 have i1:=ib pre post p0 p1
 simp only[bJ]at i1
 obtain⟨r2,hr2,hh⟩:=ah hh
 have bp3:oR 0 (1)=some (4*(1)+1):=jj (by omega)
 try simp only[bc,seval,i1,hr2,bp3]
 refine sp an hh (fun _ hh =>?_) (fun _ hh =>?_)
 ·cases hh
  try simp only[bc,seval,i1,hr2,bp3]
 ·obtain⟨r5,hr5,hh⟩:=ah hh
  obtain⟨x6,hx6,hh⟩:=ah hh
  have ax6:=bN bm hx6
  simp only[bJ]at ax6
  have aq7:=iW bm 1 hx6
  have fq7:=il bm 1 4 (aej rfl) hx6
  simp only[bJ]at aq7 fq7
  obtain⟨r8,hr8,hh⟩:=ah hh
  try simp only[bc,seval,i1,hr2,bp3,hr5,ax6,aq7,fq7,hr8]
  refine bo (by kernel_rfl) ?_
  have i9:=pB [] [] r2.1.bk r2.2.1 (IntKind.i64.wrap (r2.2.1+1))
  simp only[List.nil_append,aer,List.length_nil,bJ]at i9
  obtain⟨r10,hr10,hh⟩:=ah hh
  have bp11:oR (4*(1)+1) (4)=some (4*(4)+1):=jj (by omega)
  obtain⟨r12,hr12,hh⟩:=ah hh
  try simp only[bc,seval,i1,hr2,bp3,hr5,ax6,aq7,fq7,hr8,i9,hr10,bp11,hr12]
  refine bo (by kernel_rfl) ?_
  try simp only[bc,seval,i1,hr2,bp3,hr5,ax6,aq7,fq7,hr8,i9,hr10,bp11,hr12]
  obtain⟨o19,ho19,hh⟩:=ah hh
  refine aA (fun s t H e=>match s with|(s58a,r0_4a)=>∃v6a:Nat,∃vn0a:Nat,t 0=.ptr 0 0 pre.length∧t 6=.ptr 6 v6a 0∧t 57=.int .i64 ((r10).length:Int)∧t 58=.int .i64 s58a∧H 0=some ⟨0,69,[.nr 74 5 vn0a (pre++([.int .i64 r12.1.aH.ag,.sl false false r12.1.aH.aa.length (ae (eI .i64) r12.1.aH.aa),.int .i64 r12.1.aJ.ag,.sl false false r12.1.aJ.aa.length (ae (eI .i64) r12.1.aJ.aa),.nx (r0_4a).length (ae bm r0_4a)]++post))],false,true,true⟩∧H 6=some ⟨v6a,41,[.int .i64 r8.1.aH.ag,.sl false false r8.1.aH.aa.length (ae (eI .i64) r8.1.aH.aa),.int .i64 r8.1.aJ.ag,.sl false false r8.1.aJ.aa.length (ae (eI .i64) r8.1.aJ.aa)],false,false,false⟩∧vn0a<=4*e) (fun o x t H e=>match o with|r0_4ax=>x=.exit 0∧∃vn0ax:Nat,t 0=.ptr 0 0 pre.length∧H 0=some ⟨0,69,[.nr 74 5 vn0ax (pre++([.int .i64 r12.1.aH.ag,.sl false false r12.1.aH.aa.length (ae (eI .i64) r12.1.aH.aa),.int .i64 r12.1.aJ.ag,.sl false false r12.1.aJ.aa.length (ae (eI .i64) r12.1.aJ.aa),.nx (r0_4ax).length (ae bm r0_4ax)]++post))],false,true,true⟩∧vn0ax<=4*e) ho19 ?_ ?_ ?_
  ·refine⟨3,4*(4)+1,?_,?_,?_,?_,?_,?_,?_⟩
   all_goals (first|rfl|omega|(simp only[bc,seval,i1,hr2,bp3,hr5,ax6,aq7,fq7,hr8,i9,hr10,bp11,hr12]<;>rfl))
  ·rintro⟨s58a,r0_4a⟩ t H e ⟨v6a,vn0a,Za⟩ c hh
   simp only[dK]at hh
   try simp only[bc,seval,i1,hr2,bp3,hr5,ax6,aq7,fq7,hr8,i9,hr10,bp11,hr12,Za]
   refine sp an hh (fun _ hh =>?_) (fun _ hh =>?_)
   ·obtain⟨x21,hx21,hh⟩:=ah hh
    have ax21:=bN bm hx21
    simp only[bJ]at ax21
    have aq22:=iW bm 1 hx21
    have fq22:=il bm 1 4 (aej rfl) hx21
    simp only[bJ]at aq22 fq22
    obtain⟨r23,hr23,hh⟩:=ah hh
    have ax21:=bN bm hx21
    simp only[bJ]at ax21
    have aq24:=iW bm 1 hx21
    have fq24:=il bm 1 4 (aej rfl) hx21
    simp only[bJ]at aq24 fq24
    have p25:=eN bm (x':=(dz.mk x21.ke r23.1)) (fo:=1) (cs:=[.int .i64 r23.1.aH.ag,.sl false false r23.1.aH.aa.length (ae (eI .i64) r23.1.aH.aa),.int .i64 r23.1.aJ.ag,.sl false false r23.1.aJ.aa.length (ae (eI .i64) r23.1.aJ.aa)]) hx21 rfl (aej rfl)
    simp only[bJ,Nat.add_zero]at p25
    have up25:=p25
    simp only[putCells,List.length_cons,List.length_nil,adq,Nat.reduceAdd]at up25
    try simp only[bc,seval,i1,hr2,bp3,hr5,ax6,aq7,fq7,hr8,i9,hr10,bp11,hr12,Za,ax21,aq22,fq22,hr23,ax21,aq24,fq24,p25,up25]
    refine bo (by kernel_rfl) ?_
    cases hh
    try simp only[bc,seval,i1,hr2,bp3,hr5,ax6,aq7,fq7,hr8,i9,hr10,bp11,hr12,Za,ax21,aq22,fq22,hr23,ax21,aq24,fq24,p25,up25]
    refine j5 ?_
    refine⟨v6a,vn0a,?_,?_,?_,?_,?_,?_,?_⟩
    all_goals (first|rfl|omega|(simp only[bc,seval,i1,hr2,bp3,hr5,ax6,aq7,fq7,hr8,i9,hr10,bp11,hr12,Za,ax21,aq22,fq22,hr23,ax21,aq24,fq24,p25,up25]<;>rfl))
   ·cases hh
    try simp only[bc,seval,i1,hr2,bp3,hr5,ax6,aq7,fq7,hr8,i9,hr10,bp11,hr12,Za]
    refine ll ?_
    refine⟨rfl,⟨vn0a,?_,?_,?_⟩⟩
    all_goals (first|rfl|omega|(simp only[bc,seval,i1,hr2,bp3,hr5,ax6,aq7,fq7,hr8,i9,hr10,bp11,hr12,Za]<;>rfl))
  ·rintro x t H e hx
   obtain⟨r0_4ax,rfl⟩:∃z,z=o19:=⟨_,rfl⟩
   dsimp only at hx hh
   obtain⟨rfl,⟨vn0ax,Zax⟩⟩:=hx
   cases hh
   try simp only[bc,seval,i1,hr2,bp3,hr5,ax6,aq7,fq7,hr8,i9,hr10,bp11,hr12,Zax]
theorem jQ:W3 Try.prog 41 gG:=W3.of tok p9 mixed Try.func41 (by kernel_rfl) ⟨by kernel_rfl,by kernel_rfl⟩ (fun _=>aej (by kernel_rfl)) (fun pre post q x q' r h=>rI pre post q x (q',r) h)
noncomputable def qz:=fU (jg (de ay) (fQ (de ay))) (fun x:ak×ak=>mF x.1 x.2) (fun r:ak×Int =>.clean (.tup [.agg [.int .i64 r.1.aH.ag,.sl false false r.1.aH.aa.length (ae (eI .i64) r.1.aH.aa),.int .i64 r.1.aJ.ag,.sl false false r.1.aJ.aa.length (ae (eI .i64) r.1.aJ.aa)],.int .i64 r.2]))
theorem rN (p0_0:Int) (p0_1:(List Int)) (p0_2:Int) (p0_3:(List Int)) (p1_0:Int) (p1_1:(List Int)) (p1_2:Int) (p1_3:(List Int)):qz none [.agg [.int .i64 p0_0,.sl false false p0_1.length (ae (eI .i64) p0_1),.int .i64 p0_2,.sl false false p0_3.length (ae (eI .i64) p0_3)],.agg [.int .i64 p1_0,.sl false false p1_1.length (ae (eI .i64) p1_1),.int .i64 p1_2,.sl false false p1_3.length (ae (eI .i64) p1_3)]]=(mF (ak.mk (al.mk p0_0 p0_1) (al.mk p0_2 p0_3)) (ak.mk (al.mk p1_0 p1_1) (al.mk p1_2 p1_3))).map fun r:ak×Int=>(.clean (.tup [.agg [.int .i64 r.1.aH.ag,.sl false false r.1.aH.aa.length (ae (eI .i64) r.1.aH.aa),.int .i64 r.1.aJ.ag,.sl false false r.1.aJ.aa.length (ae (eI .i64) r.1.aJ.aa)],.int .i64 r.2]),none):=aV _ _ _ ((ak.mk (al.mk p0_0 p0_1) (al.mk p0_2 p0_3)),(ak.mk (al.mk p1_0 p1_1) (al.mk p1_2 p1_3)))
noncomputable def ri:Env:=(Am.ext (Am.ext (Am.ext a6 22 false ew) 48 false jh) 49 false nZ)
theorem KF:bC Try.prog ri:=(((bC.none.add fi false).add mo false).add tG false)
theorem gz:type_of% (ai @w<|ai @cl<|ai @gm<|ai @l6<|@ri.eq_1):=⟨@w,@cl,@gm,@l6,@ri.eq_1⟩
theorem OQ (p0:ak) (p1:ak) (r:ak×Int) (hh:mF p0 p1=some r):a7 .clean tab ri FU Try.f19 none [.agg [.int .i64 p0.aH.ag,.sl false false p0.aH.aa.length (ae (eI .i64) p0.aH.aa),.int .i64 p0.aJ.ag,.sl false false p0.aJ.aa.length (ae (eI .i64) p0.aJ.aa)],.agg [.int .i64 p1.aH.ag,.sl false false p1.aH.aa.length (ae (eI .i64) p1.aH.aa),.int .i64 p1.aJ.ag,.sl false false p1.aJ.aa.length (ae (eI .i64) p1.aJ.aa)]]=some (.clean (.tup [.agg [.int .i64 r.1.aH.ag,.sl false false r.1.aH.aa.length (ae (eI .i64) r.1.aH.aa),.int .i64 r.1.aJ.ag,.sl false false r.1.aJ.aa.length (ae (eI .i64) r.1.aJ.aa)],.int .i64 r.2]),none):=by
 refine aB rfl Try.ntmps19 Try.results19 ?_
 unfold mF at hh
 obtain⟨r1,hr1,hh⟩:=ah hh
 try simp only[gz,seval,hr1]
 obtain⟨o2,ho2,hh⟩:=ah hh
 refine bS 0 (fun s t H e=>match s with|s13j1=>∃v2j1:Nat,∃v3j1:Nat,∃v4j1:Nat,t 2=.ptr 2 v2j1 0∧t 3=.ptr 3 v3j1 0∧t 4=.ptr 4 v4j1 0∧t 13=.bool s13j1∧H 2=some ⟨v2j1,41,[.int .i64 p0.aH.ag,.sl false false p0.aH.aa.length (ae (eI .i64) p0.aH.aa),.int .i64 p0.aJ.ag,.sl false false p0.aJ.aa.length (ae (eI .i64) p0.aJ.aa)],false,false,false⟩∧H 3=some ⟨v3j1,41,[.int .i64 p1.aH.ag,.sl false false p1.aH.aa.length (ae (eI .i64) p1.aH.aa),.int .i64 p1.aJ.ag,.sl false false p1.aJ.aa.length (ae (eI .i64) p1.aJ.aa)],false,false,false⟩∧H 4=some ⟨v4j1,41,[.int .i64 0,.sl true true 0 [],.int .i64 0,.sl true true 0 []],false,false,false⟩) (fun s=>s=o2) ?_ ?_
 ·rintro s13j1 t H e ⟨v2j1,v3j1,v4j1,Zj1⟩ rfl
  try dsimp only at hh
  try simp only[gz,seval,hr1,Zj1]
  refine sp an hh (fun _ hh =>?_) (fun _ hh =>?_)
  ·cases hh
   try simp only[gz,seval,hr1,Zj1]
  ·obtain⟨r4,hr4,hh⟩:=ah hh
   obtain⟨r5,hr5,hh⟩:=ah hh
   obtain⟨r6,hr6,hh⟩:=ah hh
   try simp only[gz,seval,hr1,Zj1,hr4,hr5,hr6]
   refine bo (by kernel_rfl) ?_
   cases hh
   try simp only[gz,seval,hr1,Zj1,hr4,hr5,hr6]
 ·clear hh
  have hh:=ho2
  try simp only[gz,seval,hr1]
  refine sp bB hh (fun _ hh =>?_) (fun _ hh =>?_)
  ·cases hh
   try simp only[gz,seval,hr1]
   rw[au]
   refine⟨_,rfl,?_⟩
   refine⟨0,0,0,?_,?_,?_,?_,?_,?_,?_⟩
   all_goals first|rfl|(simp only[gz,seval,hr1]<;>rfl)
  ·obtain⟨r8,hr8,hh⟩:=ah hh
   cases hh
   try simp only[gz,seval,hr1,hr8]
   rw[au]
   refine⟨_,rfl,?_⟩
   refine⟨0,0,0,?_,?_,?_,?_,?_,?_,?_⟩
   all_goals first|rfl|(simp only[gz,seval,hr1,hr8]<;>rfl)
theorem zC:bW Try.prog 19 qz:=bW.of (mode := .clean) tok KF mixed Try.func19 (by kernel_rfl) ⟨by kernel_rfl,by kernel_rfl⟩ (fun _=>aej (by kernel_rfl)) (fun x r h=>OQ x.1 x.2 r h)
noncomputable def ji:=fU (jg (de ay) (jg (de ay) (fQ (de ay)))) (fun x:ak×ak×ak=>eW x.1 x.2.1 x.2.2) (fun r:ak =>.clean (.agg [.int .i64 r.aH.ag,.sl false false r.aH.aa.length (ae (eI .i64) r.aH.aa),.int .i64 r.aJ.ag,.sl false false r.aJ.aa.length (ae (eI .i64) r.aJ.aa)]))
theorem gn (p0_0:Int) (p0_1:(List Int)) (p0_2:Int) (p0_3:(List Int)) (p1_0:Int) (p1_1:(List Int)) (p1_2:Int) (p1_3:(List Int)) (p2_0:Int) (p2_1:(List Int)) (p2_2:Int) (p2_3:(List Int)):ji none [.agg [.int .i64 p0_0,.sl false false p0_1.length (ae (eI .i64) p0_1),.int .i64 p0_2,.sl false false p0_3.length (ae (eI .i64) p0_3)],.agg [.int .i64 p1_0,.sl false false p1_1.length (ae (eI .i64) p1_1),.int .i64 p1_2,.sl false false p1_3.length (ae (eI .i64) p1_3)],.agg [.int .i64 p2_0,.sl false false p2_1.length (ae (eI .i64) p2_1),.int .i64 p2_2,.sl false false p2_3.length (ae (eI .i64) p2_3)]]=(eW (ak.mk (al.mk p0_0 p0_1) (al.mk p0_2 p0_3)) (ak.mk (al.mk p1_0 p1_1) (al.mk p1_2 p1_3)) (ak.mk (al.mk p2_0 p2_1) (al.mk p2_2 p2_3))).map fun r:ak=>(.clean (.agg [.int .i64 r.aH.ag,.sl false false r.aH.aa.length (ae (eI .i64) r.aH.aa),.int .i64 r.aJ.ag,.sl false false r.aJ.aa.length (ae (eI .i64) r.aJ.aa)]),none):=aV _ _ _ ((ak.mk (al.mk p0_0 p0_1) (al.mk p0_2 p0_3)),(ak.mk (al.mk p1_0 p1_1) (al.mk p1_2 p1_3)),(ak.mk (al.mk p2_0 p2_1) (al.mk p2_2 p2_3)))
noncomputable def nD:Env:=(Am.ext (Am.ext a6 18 false nX) 19 false qz)
theorem DY:bC Try.prog nD:=((bC.none.add tF false).add zC false)
theorem IY:type_of% (ai @w<|ai @l5<|ai @rN<|@nD.eq_1):=⟨@w,@l5,@rN,@nD.eq_1⟩
theorem Ih (p0:ak) (p1:ak) (p2:ak) (r:ak) (hh:eW p0 p1 p2=some r):a7 .clean tab nD FU Try.f43 none [.agg [.int .i64 p0.aH.ag,.sl false false p0.aH.aa.length (ae (eI .i64) p0.aH.aa),.int .i64 p0.aJ.ag,.sl false false p0.aJ.aa.length (ae (eI .i64) p0.aJ.aa)],.agg [.int .i64 p1.aH.ag,.sl false false p1.aH.aa.length (ae (eI .i64) p1.aH.aa),.int .i64 p1.aJ.ag,.sl false false p1.aJ.aa.length (ae (eI .i64) p1.aJ.aa)],.agg [.int .i64 p2.aH.ag,.sl false false p2.aH.aa.length (ae (eI .i64) p2.aH.aa),.int .i64 p2.aJ.ag,.sl false false p2.aJ.aa.length (ae (eI .i64) p2.aJ.aa)]]=some (.clean (.agg [.int .i64 r.aH.ag,.sl false false r.aH.aa.length (ae (eI .i64) r.aH.aa),.int .i64 r.aJ.ag,.sl false false r.aJ.aa.length (ae (eI .i64) r.aJ.aa)]),none):=by
 refine aB rfl Try.ntmps43 Try.results43 ?_
 unfold eW at hh
 obtain⟨r1,hr1,hh⟩:=ah hh
 obtain⟨r2,hr2,hh⟩:=ah hh
 cases hh
 try simp only[IY,seval,hr1,hr2]
theorem mq:bW Try.prog 43 ji:=bW.of (mode := .clean) tok DY mixed Try.func43 (by kernel_rfl) ⟨by kernel_rfl,by kernel_rfl⟩ (fun _=>aej (by kernel_rfl)) (fun x r h=>Ih x.1 x.2.1 x.2.2 r h)
theorem Zp:TS Try.prog 99 (74,5,72):=Xx
noncomputable def iF:=D8 69 74 5 aD (jg (aI .i64) (fQ (de ay))) (fun (q:aq) (x:Int×ak)=>dD q x.1 x.2) (fun r:Unit =>.tup [])
theorem sK (pre post:List D) (p0:aq) (p1:Int) (p2_0:Int) (p2_1:(List Int)) (p2_2:Int) (p2_3:(List Int)):iF 69 74 5 pre.length (pre++(aD.cells p0++post)) [.int .i64 p1,.agg [.int .i64 p2_0,.sl false false p2_1.length (ae (eI .i64) p2_1),.int .i64 p2_2,.sl false false p2_3.length (ae (eI .i64) p2_3)]]=(dD p0 p1 (ak.mk (al.mk p2_0 p2_1) (al.mk p2_2 p2_3))).map fun r=>(.tup [],pre++(aD.cells r.1++post)):=Ik _ _ _ _ _ _ _ pre post p0 (p1,(ak.mk (al.mk p2_0 p2_1) (al.mk p2_2 p2_3)))
noncomputable def gg:Env:=(Am.yx 99 (74,5,72) (Am.nF 69 (0,dQ) (Am.ext (Am.ext a6 43 false ji) 44 false ka)))
theorem sG:bC Try.prog gg:=(bC.yx (bC.nF ((bC.none.add mq false).add mQ false) cU.callable cU.calls) Zp)
theorem eJ:type_of% (ai @w<|ai @YX<|ai @YW<|ai @gn<|ai @gw<|@gg.eq_1):=⟨@w,@YX,@YW,@gn,@gw,@gg.eq_1⟩
theorem tC (pre post:List D) (p0:aq) (p1:Int) (p2:ak) (r:aq×(Unit)) (hh:dD p0 p1 p2=some r):sf tab gg FU Try.f72 69 74 5 pre.length (pre++(aD.cells p0++post)) [.int .i64 p1,.agg [.int .i64 p2.aH.ag,.sl false false p2.aH.aa.length (ae (eI .i64) p2.aH.aa),.int .i64 p2.aJ.ag,.sl false false p2.aJ.aa.length (ae (eI .i64) p2.aJ.aa)]]=some (.tup [],pre++(aD.cells r.1++post)):=by
 refine vf rfl Try.ntmps72 Try.results72 ?_
 rw[cQ]
 unfold dD at hh
 have i1:=ib pre post p0 p1
 simp only[bJ]at i1
 obtain⟨r2,hr2,hh⟩:=ah hh
 have bp3:oR 0 (2)=some (4*(2)+1):=jj (by omega)
 try simp only[eJ,ne_eq,not_false_eq_true,seval,i1,hr2,bp3]
 refine sp an hh (fun _ hh =>?_) (fun _ hh =>?_)
 ·obtain⟨x5,hx5,hh⟩:=ah hh
  have ax5:=bN bm hx5
  simp only[bJ]at ax5
  have aq6:=iW bm 1 hx5
  have fq6:=il bm 1 4 (aej rfl) hx5
  simp only[bJ]at aq6 fq6
  obtain⟨r7,hr7,hh⟩:=ah hh
  obtain⟨r8,hr8,hh⟩:=ah hh
  have ax5:=bN bm hx5
  simp only[bJ]at ax5
  have aq9:=iW bm 1 hx5
  have fq9:=il bm 1 4 (aej rfl) hx5
  simp only[bJ]at aq9 fq9
  have p10:=eN bm (x':=(dz.mk x5.ke r8)) (fo:=1) (cs:=[.int .i64 r8.aH.ag,.sl false false r8.aH.aa.length (ae (eI .i64) r8.aH.aa),.int .i64 r8.aJ.ag,.sl false false r8.aJ.aa.length (ae (eI .i64) r8.aJ.aa)]) hx5 rfl (aej rfl)
  simp only[bJ,Nat.add_zero]at p10
  have up10:=p10
  simp only[putCells,List.length_cons,List.length_nil,adq,Nat.reduceAdd]at up10
  try simp only[eJ,ne_eq,not_false_eq_true,seval,i1,hr2,bp3,ax5,aq6,fq6,hr7,hr8,ax5,aq9,fq9,p10,up10]
  refine bo (by kernel_rfl) ?_
  cases hh
  try simp only[eJ,ne_eq,not_false_eq_true,seval,i1,hr2,bp3,ax5,aq6,fq6,hr7,hr8,ax5,aq9,fq9,p10,up10]
 ·obtain⟨x11,hx11,hh⟩:=ah hh
  obtain⟨q12a,q12b,q12c,q12d,q12e⟩:=Xw bm hx11
  simp only[bJ]at q12e
  have bp13:oR (4*(2)+1) (4)=some (4*(4)+1):=jj (by omega)
  try simp only[eJ,ne_eq,not_false_eq_true,seval,i1,hr2,bp3,q12a,q12b,q12c,q12d,q12e,bp13]
  refine bo (by kernel_rfl) ?_
  cases hh
  try simp only[eJ,ne_eq,not_false_eq_true,seval,i1,hr2,bp3,q12a,q12b,q12c,q12d,q12e,bp13]
theorem lu:W3 Try.prog 72 iF:=W3.of tok sG mixed Try.func72 (by kernel_rfl) ⟨by kernel_rfl,by kernel_rfl⟩ (fun _=>aej (by kernel_rfl)) (fun pre post q x q' r h=>tC pre post q x.1 x.2 (q',r) h)
noncomputable def iG:=D8 69 74 5 aD (jg (aI .i64) (fQ (de cz))) (fun (q:aq) (x:Int×aq)=>dE q x.1 x.2) (fun r:Unit =>.tup [])
noncomputable def gh:Env:=(Am.nF 72 (0,iF) (Am.ext (Am.nF 69 (0,dQ) (Am.ext (Am.ext a6 43 false ji) 44 false ka)) 70 true iJ))
theorem sH:bC Try.prog gh:=(bC.nF ((bC.nF ((bC.none.add mq false).add mQ false) cU.callable cU.calls).add oI true) lu.callable lu.calls)
theorem bq:type_of% (ai @w<|ai @YX<|ai @YW<|ai @gn<|ai @gw<|@gh.eq_1):=⟨@w,@YX,@YW,@gn,@gw,@gh.eq_1⟩
theorem tD (pre post:List D) (p0:aq) (p1:Int) (p2:aq) (r:aq×(Unit)) (hh:dE p0 p1 p2=some r):sf tab gh FU Try.f42 69 74 5 pre.length (pre++(aD.cells p0++post)) [.int .i64 p1,.agg [.int .i64 p2.aP.aH.ag,.sl false false p2.aP.aH.aa.length (ae (eI .i64) p2.aP.aH.aa),.int .i64 p2.aP.aJ.ag,.sl false false p2.aP.aJ.aa.length (ae (eI .i64) p2.aP.aJ.aa),.sl false false p2.bk.length (ae bm p2.bk)]]=some (.tup [],pre++(aD.cells r.1++post)):=by
 refine vf rfl Try.ntmps42 Try.results42 ?_
 rw[cQ]
 unfold dE at hh
 have i1:=ib pre post p0 p1
 simp only[bJ]at i1
 obtain⟨r2,hr2,hh⟩:=ah hh
 have bp3:oR 0 (2)=some (4*(2)+1):=jj (by omega)
 try simp only[bq,seval,i1,hr2,bp3]
 refine sp an hh (fun _ hh =>?_) (fun _ hh =>?_)
 ·cases hh
  try simp only[bq,seval,i1,hr2,bp3]
 ·obtain⟨x5,hx5,hh⟩:=ah hh
  have ax5:=bN bm hx5
  simp only[bJ]at ax5
  have aq6:=iW bm 1 hx5
  have fq6:=il bm 1 4 (aej rfl) hx5
  simp only[bJ]at aq6 fq6
  have i7:=pB [] [] r2.1.bk r2.2.1 (IntKind.i64.wrap (r2.2.1+1))
  simp only[List.nil_append,aer,List.length_nil,bJ]at i7
  obtain⟨r8,hr8,hh⟩:=ah hh
  have bp9:oR (4*(2)+1) (5)=some (4*(5)+1):=jj (by omega)
  obtain⟨r10,hr10,hh⟩:=ah hh
  try simp only[bq,seval,i1,hr2,bp3,ax5,aq6,fq6,i7,hr8,bp9,hr10]
  refine bo (by kernel_rfl) ?_
  try simp only[bq,seval,i1,hr2,bp3,ax5,aq6,fq6,i7,hr8,bp9,hr10]
  obtain⟨o18,ho18,hh⟩:=ah hh
  refine aA (fun s t H e=>match s with|(s52a,r0_0a,r0_1a,r0_2a,r0_3a,r0_4a)=>∃v8a:Nat,∃vn0a:Nat,t 0=.ptr 0 0 pre.length∧t 8=.ptr 8 v8a 0∧t 50=.sl false false p2.bk.length (ae bm p2.bk)∧t 51=.int .i64 (p2.bk.length:Int)∧t 52=.int .i64 s52a∧H 0=some ⟨0,69,[.nr 74 5 vn0a (pre++([.int .i64 r0_0a,.sl false false r0_1a.length (ae (eI .i64) r0_1a),.int .i64 r0_2a,.sl false false r0_3a.length (ae (eI .i64) r0_3a),.nx (r0_4a).length (ae bm r0_4a)]++post))],false,true,true⟩∧H 8=some ⟨v8a,41,[.int .i64 x5.dC.aH.ag,.sl false false x5.dC.aH.aa.length (ae (eI .i64) x5.dC.aH.aa),.int .i64 x5.dC.aJ.ag,.sl false false x5.dC.aJ.aa.length (ae (eI .i64) x5.dC.aJ.aa)],false,false,false⟩∧vn0a<=4*e) (fun o x t H e=>match o with|(r0_0ax,r0_1ax,r0_2ax,r0_3ax,r0_4ax)=>x=.exit 0∧∃vn0ax:Nat,t 0=.ptr 0 0 pre.length∧H 0=some ⟨0,69,[.nr 74 5 vn0ax (pre++([.int .i64 r0_0ax,.sl false false r0_1ax.length (ae (eI .i64) r0_1ax),.int .i64 r0_2ax,.sl false false r0_3ax.length (ae (eI .i64) r0_3ax),.nx (r0_4ax).length (ae bm r0_4ax)]++post))],false,true,true⟩∧vn0ax<=4*e) ho18 ?_ ?_ ?_
  ·refine⟨4,4*(5)+1,?_,?_,?_,?_,?_,?_,?_,?_⟩
   all_goals (first|rfl|omega|(simp only[bq,seval,i1,hr2,bp3,ax5,aq6,fq6,i7,hr8,bp9,hr10]<;>rfl))
  ·rintro⟨s52a,r0_0a,r0_1a,r0_2a,r0_3a,r0_4a⟩ t H e ⟨v8a,vn0a,Za⟩ c hh
   simp only[ej]at hh
   try simp only[bq,seval,i1,hr2,bp3,ax5,aq6,fq6,i7,hr8,bp9,hr10,Za]
   refine sp an hh (fun _ hh =>?_) (fun _ hh =>?_)
   ·obtain⟨x20,hx20,hh⟩:=ah hh
    have ax20:=bN bm hx20
    simp only[bJ]at ax20
    obtain⟨r21,hr21,hh⟩:=ah hh
    obtain⟨r22,hr22,hh⟩:=ah hh
    have i23:=sK pre post (aq.mk (ak.mk (al.mk r0_0a r0_1a) (al.mk r0_2a r0_3a)) r0_4a) x20.ke r22.aH.ag r22.aH.aa r22.aJ.ag r22.aJ.aa
    simp only[bJ]at i23
    obtain⟨r24,hr24,hh⟩:=ah hh
    have bp25:oR vn0a (e+1+1)=some (4*(e+1+1)+1):=jj (by omega)
    try simp only[bq,seval,i1,hr2,bp3,ax5,aq6,fq6,i7,hr8,bp9,hr10,Za,ax20,hr21,hr22,i23,hr24,bp25]
    refine bo (by kernel_rfl) ?_
    cases hh
    try simp only[bq,seval,i1,hr2,bp3,ax5,aq6,fq6,i7,hr8,bp9,hr10,Za,ax20,hr21,hr22,i23,hr24,bp25]
    refine j5 ?_
    refine⟨v8a,4*(e+1+1)+1,?_,?_,?_,?_,?_,?_,?_,?_⟩
    all_goals (first|rfl|omega|(simp only[bq,seval,i1,hr2,bp3,ax5,aq6,fq6,i7,hr8,bp9,hr10,Za,ax20,hr21,hr22,i23,hr24,bp25]<;>rfl))
   ·cases hh
    try simp only[bq,seval,i1,hr2,bp3,ax5,aq6,fq6,i7,hr8,bp9,hr10,Za]
    refine ll ?_
    refine⟨rfl,⟨vn0a,?_,?_,?_⟩⟩
    all_goals (first|rfl|omega|(simp only[bq,seval,i1,hr2,bp3,ax5,aq6,fq6,i7,hr8,bp9,hr10,Za]<;>rfl))
  ·rintro x t H e hx
   rcases o18 with⟨r0_0ax,r0_1ax,r0_2ax,r0_3ax,r0_4ax⟩
   dsimp only at hx hh
   obtain⟨rfl,⟨vn0ax,Zax⟩⟩:=hx
   cases hh
   try simp only[bq,seval,i1,hr2,bp3,ax5,aq6,fq6,i7,hr8,bp9,hr10,Zax]
theorem lv:W3 Try.prog 42 iG:=W3.of tok sH mixed Try.func42 (by kernel_rfl) ⟨by kernel_rfl,by kernel_rfl⟩ (fun _=>aej (by kernel_rfl)) (fun pre post q x q' r h=>tD pre post q x.1 x.2 (q',r) h)
noncomputable def n5:=fU (jg (de mD) (fQ (mX ay))) (fun x:bR×(List ak)=>fE x.1 x.2) (fun r:(List ak)×Int =>.clean (.tup [.sl false false r.1.length (ae ay r.1),.int .i64 r.2]))
theorem jb (p0_0:Int) (p0_1:(List dk)) (p1:(List ak)):n5 none [.agg [.int .i64 p0_0,.sl false false p0_1.length (ae ba p0_1)],.sl false false p1.length (ae ay p1)]=(fE (bR.mk p0_0 p0_1) p1).map fun r:(List ak)×Int=>(.clean (.tup [.sl false false r.1.length (ae ay r.1),.int .i64 r.2]),none):=aV _ _ _ ((bR.mk p0_0 p0_1),p1)
theorem ql {C:List (Bool×aq)} {i:Int} {p0:aq} (h:P.idx C i=some (false,p0)) (p1:Int):gG 69 74 5 (i.toNat*aW.size) (ae aW C) [.int .i64 p1]=(cX p0 p1).map fun r=>(.tup [],ae aW (C.set i.toNat (false,r.1))):=Rw kX h (p1)
theorem sJ {C:List (Bool×aq)} {i:Int} {p0:aq} (h:P.idx C i=some (false,p0)) (p1:Int) (p2_0:Int) (p2_1:(List Int)) (p2_2:Int) (p2_3:(List Int)) (p2_4:(List dz)):iG 69 74 5 (i.toNat*aW.size) (ae aW C) [.int .i64 p1,.agg [.int .i64 p2_0,.sl false false p2_1.length (ae (eI .i64) p2_1),.int .i64 p2_2,.sl false false p2_3.length (ae (eI .i64) p2_3),.sl false false p2_4.length (ae bm p2_4)]]=(dE p0 p1 (aq.mk (ak.mk (al.mk p2_0 p2_1) (al.mk p2_2 p2_3)) p2_4)).map fun r=>(.tup [],ae aW (C.set i.toNat (false,r.1))):=Rw kX h (p1,(aq.mk (ak.mk (al.mk p2_0 p2_1) (al.mk p2_2 p2_3)) p2_4))
noncomputable def rE:Env:=(Am.ext (Am.ext (Am.nF 42 (0,iG) (Am.nF 41 (5,gG) (Am.xz 40 j8 (Am.ext (Am.ext (Am.ext a6 11 false kp) 14 false pP) 39 false jX)))) 43 false ji) 44 false ka)
theorem KT:bC Try.prog rE:=(((bC.nF (bC.nF (bC.xz (((bC.none.add nG false).add CU false).add qk false) nd.callable nd.calls) jQ.callable jQ.calls) lv.callable lv.calls).add mq false).add mQ false)
theorem aR:type_of% (ai @w<|ai @YW<|ai @gW<|ai @vS<|ai @j7<|ai @oJ<|ai @gn<|ai @gw<|@rE.eq_1):=⟨@w,@YW,@gW,@vS,@j7,@oJ,@gn,@gw,@rE.eq_1⟩
theorem O5 (p0:bR) (p1:(List ak)) (r:(List ak)×Int) (hh:fE p0 p1=some r):a7 .clean tab rE FU Try.f13 none [.agg [.int .i64 p0.aG,.sl false false p0.ax.length (ae ba p0.ax)],.sl false false p1.length (ae ay p1)]=some (.clean (.tup [.sl false false r.1.length (ae ay r.1),.int .i64 r.2]),none):=by
 refine aB rfl Try.ntmps13 Try.results13 ?_
 unfold fE at hh
 obtain⟨r1,hr1,hh⟩:=ah hh
 try simp only[aR,seval,hr1]
 obtain⟨o2,ho2,hh⟩:=ah hh
 refine bS 0 (fun s t H e=>match s with|s14j1=>∃v2j1:Nat,t 1=.sl false false p1.length (ae ay p1)∧t 2=.ptr 2 v2j1 0∧t 14=.bool s14j1∧H 2=some ⟨v2j1,24,[.int .i64 p0.aG,.sl false false p0.ax.length (ae ba p0.ax)],false,false,false⟩) (fun s=>s=o2) ?_ ?_
 ·rintro s14j1 t H e ⟨v2j1,Zj1⟩ rfl
  try dsimp only at hh
  try simp only[aR,seval,hr1,Zj1]
  refine sp an hh (fun _ hh =>?_) (fun _ hh =>?_)
  ·cases hh
   try simp only[aR,seval,hr1,Zj1]
  ·obtain⟨r4,hr4,hh⟩:=ah hh
   try simp only[aR,seval,hr1,Zj1,hr4]
   refine sp an hh (fun _ hh =>?_) (fun _ hh =>?_)
   ·cases hh
    try simp only[aR,seval,hr1,Zj1,hr4]
   ·obtain⟨r6,hr6,hh⟩:=ah hh
    have er6:=FH kX r6
    try simp only[aR,seval,hr1,Zj1,hr4,hr6,er6]
    obtain⟨o32,ho32,hh⟩:=ah hh
    refine aA (fun s t H e=>match s with|(s35b,l32b)=>∃v2b:Nat,∃v32b:Nat,∃vn32b:Nat,t 2=.ptr 2 v2b 0∧t 6=.buf 32 v32b 5 0 (l32b).length∧t 34=.int .i64 ((r6).length:Int)∧t 35=.int .i64 s35b∧H 2=some ⟨v2b,24,[.int .i64 p0.aG,.sl false false p0.ax.length (ae ba p0.ax)],false,false,false⟩∧H 32=some ⟨v32b,69,[.nr 74 5 vn32b (ae aW l32b)],false,true,true⟩∧vn32b<=4*e) (fun o x t H e=>match o with|l32bx=>x=.exit 1∧∃v2bx:Nat,∃v32bx:Nat,∃vn32bx:Nat,t 2=.ptr 2 v2bx 0∧t 6=.buf 32 v32bx 5 0 (l32bx).length∧H 2=some ⟨v2bx,24,[.int .i64 p0.aG,.sl false false p0.ax.length (ae ba p0.ax)],false,false,false⟩∧H 32=some ⟨v32bx,69,[.nr 74 5 vn32bx (ae aW l32bx)],false,true,true⟩∧vn32bx<=4*e) ho32 ?_ ?_ ?_
    ·refine⟨v2j1,e+1,4*(e+1)+2,?_,?_,?_,?_,?_,?_,?_⟩
     all_goals (first|rfl|omega|(simp only[aR,seval,hr1,Zj1,hr4,hr6,er6]<;>rfl))
    ·rintro⟨s35b,l32b⟩ t H e ⟨v2b,v32b,vn32b,Zb⟩ c hh
     simp only[jc]at hh
     try simp only[aR,seval,hr1,hr4,hr6,er6,Zb]
     refine sp an hh (fun _ hh =>?_) (fun _ hh =>?_)
     ·obtain⟨x34,hx34,hh⟩:=ah hh
      have ax34:=And.intro (oA hx34) (jn aW hx34)
      simp only[bJ]at ax34
      obtain⟨x35,hx35,hh⟩:=ah hh
      have gx35:P.idx l32b s35b=some (false,x35):=hx34.trans (congrArg some (MJ hx35))
      have i36:=ql gx35 s35b
      simp only[bJ]at i36
      obtain⟨r37,hr37,hh⟩:=ah hh
      have bp38:oR vn32b (e+1+1)=some (4*(e+1+1)+1):=jj (by omega)
      have fp38:=aai kX BP BR BQ gx35 r37.1
      rw[lU]at fp38
      try simp only[aR,seval,hr1,hr4,hr6,er6,Zb,ax34,i36,hr37,bp38,fp38]
      obtain⟨o48,ho48,hh⟩:=ah hh
      refine aA (fun s t H e=>match s with|(s8d,l32d)=>∃v2d:Nat,∃v32d:Nat,∃vn32d:Nat,t 2=.ptr 2 v2d 0∧t 6=.buf 32 v32d 5 0 (l32d).length∧t 7=.int .i64 s35b∧t 8=.int .i64 s8d∧t 34=.int .i64 ((r6).length:Int)∧t 35=.int .i64 s35b∧H 2=some ⟨v2d,24,[.int .i64 p0.aG,.sl false false p0.ax.length (ae ba p0.ax)],false,false,false⟩∧H 32=some ⟨v32d,69,[.nr 74 5 vn32d (ae aW l32d)],false,true,true⟩∧vn32d<=4*e) (fun o x t H e=>match o with|l32dx=>x=.exit 3∧∃v2dx:Nat,∃v32dx:Nat,∃vn32dx:Nat,t 2=.ptr 2 v2dx 0∧t 6=.buf 32 v32dx 5 0 (l32dx).length∧t 34=.int .i64 ((r6).length:Int)∧t 35=.int .i64 s35b∧H 2=some ⟨v2dx,24,[.int .i64 p0.aG,.sl false false p0.ax.length (ae ba p0.ax)],false,false,false⟩∧H 32=some ⟨v32dx,69,[.nr 74 5 vn32dx (ae aW l32dx)],false,true,true⟩∧vn32dx<=4*e) ho48 ?_ ?_ ?_
      ·refine⟨v2b,v32b,4*(e+1+1)+1,?_,?_,?_,?_,?_,?_,?_,?_,?_⟩
       all_goals (first|rfl|omega|(simp only[aR,seval,hr1,hr4,hr6,er6,Zb,ax34,i36,hr37,bp38,fp38]<;>rfl))
      ·rintro⟨s8d,l32d⟩ t H e ⟨v2d,v32d,vn32d,Zd⟩ c hh
       simp only[kL]at hh
       try simp only[aR,seval,hr1,hr4,hr6,er6,ax34,i36,hr37,bp38,fp38,Zd]
       refine sp an hh (fun _ hh =>?_) (fun _ hh =>?_)
       ·obtain⟨x50,hx50,hh⟩:=ah hh
        have ax50:=And.intro (oA hx50) (jn aW hx50)
        simp only[bJ]at ax50
        obtain⟨x51,hx51,hh⟩:=ah hh
        have ax51:=And.intro (oA hx51) (jn aW hx51)
        simp only[bJ]at ax51
        obtain⟨x52,hx52,hh⟩:=ah hh
        have gx52:P.idx l32d s35b=some (true,x52):=hx51.trans (congrArg some (Ng hx52))
        have aq53:=iW aW 0 gx52
        have fq53:=il aW 0 5 (aej rfl) gx52
        simp only[bJ,Nat.add_zero]at aq53 fq53
        obtain⟨x54,hx54,hh⟩:=ah hh
        have gx54:P.idx l32d s8d=some (false,x54):=hx50.trans (congrArg some (MJ hx54))
        have i55:=sJ gx54 s35b x52.aP.aH.ag x52.aP.aH.aa x52.aP.aJ.ag x52.aP.aJ.aa x52.bk
        simp only[bJ]at i55
        obtain⟨r56,hr56,hh⟩:=ah hh
        have bp57:oR vn32d (e+1)=some (4*(e+1)+1):=jj (by omega)
        try simp only[aR,seval,hr1,hr4,hr6,er6,ax34,i36,hr37,bp38,fp38,Zd,ax50,ax51,aq53,fq53,i55,hr56,bp57]
        refine bo (by kernel_rfl) ?_
        cases hh
        try simp only[aR,seval,hr1,hr4,hr6,er6,ax34,i36,hr37,bp38,fp38,Zd,ax50,ax51,aq53,fq53,i55,hr56,bp57]
        refine j5 ?_
        refine⟨v2d,v32d,4*(e+1)+1,?_,?_,?_,?_,?_,?_,?_,?_,?_⟩
        all_goals (first|rfl|omega|(simp only[aR,seval,hr1,hr4,hr6,er6,ax34,i36,hr37,bp38,fp38,Zd,ax50,ax51,aq53,fq53,i55,hr56,bp57]<;>rfl))
       ·cases hh
        try simp only[aR,seval,hr1,hr4,hr6,er6,ax34,i36,hr37,bp38,fp38,Zd]
        refine ll ?_
        refine⟨rfl,⟨v2d,v32d,vn32d,?_,?_,?_,?_,?_,?_,?_⟩⟩
        all_goals (first|rfl|omega|(simp only[aR,seval,hr1,hr4,hr6,er6,ax34,i36,hr37,bp38,fp38,Zd]<;>rfl))
      ·rintro x t H e hx
       obtain⟨l32dx,rfl⟩:∃z,z=o48:=⟨_,rfl⟩
       dsimp only at hx hh
       obtain⟨rfl,⟨v2dx,v32dx,vn32dx,Zdx⟩⟩:=hx
       cases hh
       try simp only[aR,seval,hr1,hr4,hr6,er6,ax34,i36,hr37,bp38,fp38,Zdx]
       refine j5 ?_
       refine⟨v2dx,v32dx,vn32dx,?_,?_,?_,?_,?_,?_,?_⟩
       all_goals (first|rfl|omega|(simp only[aR,seval,hr1,hr4,hr6,er6,ax34,i36,hr37,bp38,fp38,Zdx]<;>rfl))
     ·cases hh
      try simp only[aR,seval,hr1,hr4,hr6,er6,Zb]
      refine ll ?_
      refine⟨rfl,⟨v2b,v32b,vn32b,?_,?_,?_,?_,?_⟩⟩
      all_goals (first|rfl|omega|(simp only[aR,seval,hr1,hr4,hr6,er6,Zb]<;>rfl))
    ·rintro x t H e hx
     obtain⟨l32bx,rfl⟩:∃z,z=o32:=⟨_,rfl⟩
     dsimp only at hx hh
     obtain⟨rfl,⟨v2bx,v32bx,vn32bx,Zbx⟩⟩:=hx
     obtain⟨x58,hx58,hh⟩:=ah hh
     obtain⟨q59a,q59b,q59c,q59d,q59e⟩:=mk_one ay hx58
     simp only[bJ]at q59d
     try simp only[aR,seval,hr1,hr4,hr6,er6,Zbx,q59a,q59b,q59c,q59d,q59e]
     obtain⟨o78,ho78,hh⟩:=ah hh
     refine aA (fun s t H e=>match s with|(s10e,l9e)=>∃v9e:Nat,∃v32e:Nat,∃vn32e:Nat,t 6=.buf 32 v32e 5 0 (l32bx).length∧t 9=.buf 9 v9e 4 0 (l9e).length∧t 10=.int .i64 s10e∧H 9=some ⟨v9e,41,ae ay l9e,false,true,false⟩∧H 32=some ⟨v32e,69,[.nr 74 5 vn32e (ae aW l32bx)],false,true,true⟩∧vn32e<=4*e) (fun o x t H e=>match o with|l9ex=>x=.exit 5∧∃v9ex:Nat,t 9=.buf 9 v9ex 4 0 (l9ex).length∧H 9=some ⟨v9ex,41,ae ay l9ex,false,true,false⟩) ho78 ?_ ?_ ?_
     ·refine⟨e,v32bx,vn32bx,?_,?_,?_,?_,?_,?_⟩
      all_goals (first|rfl|omega|(simp only[aR,seval,hr1,hr4,hr6,er6,Zbx,q59a,q59b,q59c,q59d,q59e]<;>rfl))
     ·rintro⟨s10e,l9e⟩ t H e ⟨v9e,v32e,vn32e,Ze⟩ c hh
      simp only[jd]at hh
      try simp only[aR,seval,hr1,hr4,hr6,er6,q59a,q59b,q59c,q59d,q59e,Ze]
      refine sp an hh (fun _ hh =>?_) (fun _ hh =>?_)
      ·obtain⟨x80,hx80,hh⟩:=ah hh
       have ax80:=And.intro (oA hx80) (jn aW hx80)
       simp only[bJ]at ax80
       obtain⟨x81,hx81,hh⟩:=ah hh
       have gx81:P.idx l32bx s10e=some (true,x81):=hx80.trans (congrArg some (Ng hx81))
       have aq82:=iW aW 0 gx81
       have fq82:=il aW 0 4 (aej rfl) gx81
       simp only[bJ,Nat.add_zero]at aq82 fq82
       obtain⟨r83,hr83,hh⟩:=ah hh
       obtain⟨r84,hr84,hh⟩:=ah hh
       try simp only[aR,seval,hr1,hr4,hr6,er6,q59a,q59b,q59c,q59d,q59e,Ze,ax80,aq82,fq82,hr83,hr84]
       refine bo (by kernel_rfl) ?_
       have ax80:=And.intro (oA hx80) (jn aW hx80)
       simp only[bJ]at ax80
       have aq85:=iW aW 4 gx81
       have fq85:=il aW 4 1 (aej rfl) gx81
       simp only[bJ,Nat.add_zero]at aq85 fq85
       try simp only[aR,seval,hr1,hr4,hr6,er6,q59a,q59b,q59c,q59d,q59e,Ze,ax80,aq82,fq82,hr83,hr84,ax80,aq85,fq85]
       obtain⟨o90,ho90,hh⟩:=ah hh
       refine aA (fun s t H e=>match s with|(s85g,r11_0g,r11_1g,r11_2g,r11_3g)=>∃v9g:Nat,∃v11g:Nat,∃v32g:Nat,∃vn32g:Nat,t 6=.buf 32 v32g 5 0 (l32bx).length∧t 9=.buf 9 v9g 4 0 (l9e).length∧t 10=.int .i64 s10e∧t 11=.ptr 11 v11g 0∧t 83=.sl false false x81.bk.length (ae bm x81.bk)∧t 84=.int .i64 (x81.bk.length:Int)∧t 85=.int .i64 s85g∧H 9=some ⟨v9g,41,ae ay l9e,false,true,false⟩∧H 11=some ⟨v11g,41,[.int .i64 r11_0g,.sl false false r11_1g.length (ae (eI .i64) r11_1g),.int .i64 r11_2g,.sl false false r11_3g.length (ae (eI .i64) r11_3g)],false,false,false⟩∧H 32=some ⟨v32g,69,[.nr 74 5 vn32g (ae aW l32bx)],false,true,true⟩∧vn32g<=4*e) (fun o x t H e=>match o with|(r11_0gx,r11_1gx,r11_2gx,r11_3gx)=>x=.exit 7∧∃v9gx:Nat,∃v11gx:Nat,∃v32gx:Nat,∃vn32gx:Nat,t 6=.buf 32 v32gx 5 0 (l32bx).length∧t 9=.buf 9 v9gx 4 0 (l9e).length∧t 10=.int .i64 s10e∧t 11=.ptr 11 v11gx 0∧H 9=some ⟨v9gx,41,ae ay l9e,false,true,false⟩∧H 11=some ⟨v11gx,41,[.int .i64 r11_0gx,.sl false false r11_1gx.length (ae (eI .i64) r11_1gx),.int .i64 r11_2gx,.sl false false r11_3gx.length (ae (eI .i64) r11_3gx)],false,false,false⟩∧H 32=some ⟨v32gx,69,[.nr 74 5 vn32gx (ae aW l32bx)],false,true,true⟩∧vn32gx<=4*e) ho90 ?_ ?_ ?_
       ·refine⟨v9e,e+1,v32e,vn32e,?_,?_,?_,?_,?_,?_,?_,?_,?_,?_,?_⟩
        all_goals (first|rfl|omega|(simp only[aR,seval,hr1,hr4,hr6,er6,q59a,q59b,q59c,q59d,q59e,Ze,ax80,aq82,fq82,hr83,hr84,ax80,aq85,fq85]<;>rfl))
       ·rintro⟨s85g,r11_0g,r11_1g,r11_2g,r11_3g⟩ t H e ⟨v9g,v11g,v32g,vn32g,Zg⟩ c hh
        simp only[mU]at hh
        try simp only[aR,seval,hr1,hr4,hr6,er6,q59a,q59b,q59c,q59d,q59e,ax80,aq82,fq82,hr83,hr84,ax80,aq85,fq85,Zg]
        refine sp an hh (fun _ hh =>?_) (fun _ hh =>?_)
        ·obtain⟨x92,hx92,hh⟩:=ah hh
         have ax92:=bN bm hx92
         simp only[bJ]at ax92
         obtain⟨x93,hx93,hh⟩:=ah hh
         have ax93:=bN ay hx93
         simp only[bJ]at ax93
         obtain⟨r94,hr94,hh⟩:=ah hh
         try simp only[aR,seval,hr1,hr4,hr6,er6,q59a,q59b,q59c,q59d,q59e,ax80,aq82,fq82,hr83,hr84,ax80,aq85,fq85,Zg,ax92,ax93,hr94]
         refine bo (by kernel_rfl) ?_
         cases hh
         try simp only[aR,seval,hr1,hr4,hr6,er6,q59a,q59b,q59c,q59d,q59e,ax80,aq82,fq82,hr83,hr84,ax80,aq85,fq85,Zg,ax92,ax93,hr94]
         refine j5 ?_
         refine⟨v9g,v11g,v32g,vn32g,?_,?_,?_,?_,?_,?_,?_,?_,?_,?_,?_⟩
         all_goals (first|rfl|omega|(simp only[aR,seval,hr1,hr4,hr6,er6,q59a,q59b,q59c,q59d,q59e,ax80,aq82,fq82,hr83,hr84,ax80,aq85,fq85,Zg,ax92,ax93,hr94]<;>rfl))
        ·cases hh
         try simp only[aR,seval,hr1,hr4,hr6,er6,q59a,q59b,q59c,q59d,q59e,ax80,aq82,fq82,hr83,hr84,ax80,aq85,fq85,Zg]
         refine ll ?_
         refine⟨rfl,⟨v9g,v11g,v32g,vn32g,?_,?_,?_,?_,?_,?_,?_,?_⟩⟩
         all_goals (first|rfl|omega|(simp only[aR,seval,hr1,hr4,hr6,er6,q59a,q59b,q59c,q59d,q59e,ax80,aq82,fq82,hr83,hr84,ax80,aq85,fq85,Zg]<;>rfl))
       ·rintro x t H e hx
        rcases o90 with⟨r11_0gx,r11_1gx,r11_2gx,r11_3gx⟩
        dsimp only at hx hh
        obtain⟨rfl,⟨v9gx,v11gx,v32gx,vn32gx,Zgx⟩⟩:=hx
        obtain⟨x95,hx95,hh⟩:=ah hh
        have ax95:=bN ay hx95
        simp only[bJ]at ax95
        have p96:=eN ay (x':=(ak.mk (al.mk r11_0gx r11_1gx) (al.mk r11_2gx r11_3gx))) (fo:=0) (cs:=[.int .i64 r11_0gx,.sl false false r11_1gx.length (ae (eI .i64) r11_1gx),.int .i64 r11_2gx,.sl false false r11_3gx.length (ae (eI .i64) r11_3gx)]) hx95 rfl (aej rfl)
        simp only[bJ,Nat.add_zero]at p96
        have up96:=p96
        simp only[putCells,List.length_cons,List.length_nil,adq,Nat.reduceAdd]at up96
        cases hh
        try simp only[aR,seval,hr1,hr4,hr6,er6,q59a,q59b,q59c,q59d,q59e,ax80,aq82,fq82,hr83,hr84,ax80,aq85,fq85,Zgx,ax95,p96,up96]
        refine j5 ?_
        refine⟨v9gx,v32gx,vn32gx,?_,?_,?_,?_,?_,?_⟩
        all_goals (first|rfl|omega|(simp only[aR,seval,hr1,hr4,hr6,er6,q59a,q59b,q59c,q59d,q59e,ax80,aq82,fq82,hr83,hr84,ax80,aq85,fq85,Zgx,ax95,p96,up96]<;>rfl))
      ·cases hh
       try simp only[aR,seval,hr1,hr4,hr6,er6,q59a,q59b,q59c,q59d,q59e,Ze]
       refine ll ?_
       refine⟨rfl,⟨v9e,?_,?_⟩⟩
       all_goals first|rfl|(simp only[aR,seval,hr1,hr4,hr6,er6,q59a,q59b,q59c,q59d,q59e,Ze]<;>rfl)
     ·rintro x t H e hx
      obtain⟨l9ex,rfl⟩:∃z,z=o78:=⟨_,rfl⟩
      dsimp only at hx hh
      obtain⟨rfl,⟨v9ex,Zex⟩⟩:=hx
      cases hh
      try simp only[aR,seval,hr1,hr4,hr6,er6,q59a,q59b,q59c,q59d,q59e,Zex]
 ·clear hh
  have hh:=ho2
  try simp only[aR,seval,hr1]
  refine sp bB hh (fun _ hh =>?_) (fun _ hh =>?_)
  ·cases hh
   try simp only[aR,seval,hr1]
   rw[au]
   refine⟨_,rfl,?_⟩
   refine⟨0,?_,?_,?_,?_⟩
   all_goals first|rfl|(simp only[aR,seval,hr1]<;>rfl)
  ·obtain⟨r98,hr98,hh⟩:=ah hh
   cases hh
   try simp only[aR,seval,hr1,hr98]
   rw[au]
   refine⟨_,rfl,?_⟩
   refine⟨0,?_,?_,?_,?_⟩
   all_goals first|rfl|(simp only[aR,seval,hr1,hr98]<;>rfl)
theorem tI:bW Try.prog 13 n5:=bW.of (mode := .clean) tok KT mixed Try.func13 (by kernel_rfl) ⟨by kernel_rfl,by kernel_rfl⟩ (fun _=>aej (by kernel_rfl)) (fun x r h=>O5 x.1 x.2 r h)
noncomputable def pQ:=fU (jg (de eL) (fQ (de eL))) (fun x:al×al=>gZ x.1 x.2) (fun r:Bool =>.clean (.bool r))
theorem vT (p0_0:Int) (p0_1:(List Int)) (p1_0:Int) (p1_1:(List Int)):pQ none [.agg [.int .i64 p0_0,.sl false false p0_1.length (ae (eI .i64) p0_1)],.agg [.int .i64 p1_0,.sl false false p1_1.length (ae (eI .i64) p1_1)]]=(gZ (al.mk p0_0 p0_1) (al.mk p1_0 p1_1)).map fun r:Bool=>(.clean (.bool r),none):=aV _ _ _ ((al.mk p0_0 p0_1),(al.mk p1_0 p1_1))
theorem D5 (p0:al) (p1:al) (r:Bool) (hh:gZ p0 p1=some r):a7 .clean tab a6 FU Try.f53 none [.agg [.int .i64 p0.ag,.sl false false p0.aa.length (ae (eI .i64) p0.aa)],.agg [.int .i64 p1.ag,.sl false false p1.aa.length (ae (eI .i64) p1.aa)]]=some (.clean (.bool r),none):=by
 refine aB rfl Try.ntmps53 Try.results53 ?_
 unfold gZ at hh
 try simp only[w,seval]
 obtain⟨o1,ho1,hh⟩:=ah hh
 refine bS 0 (fun s t H e=>match s with|s19j1=>∃v2j1:Nat,∃v3j1:Nat,t 2=.ptr 2 v2j1 0∧t 3=.ptr 3 v3j1 0∧t 19=.bool s19j1∧H 2=some ⟨v2j1,39,[.int .i64 p0.ag,.sl false false p0.aa.length (ae (eI .i64) p0.aa)],false,false,false⟩∧H 3=some ⟨v3j1,39,[.int .i64 p1.ag,.sl false false p1.aa.length (ae (eI .i64) p1.aa)],false,false,false⟩) (fun s=>s=o1) ?_ ?_
 ·rintro s19j1 t H e ⟨v2j1,v3j1,Zj1⟩ rfl
  try dsimp only at hh
  try simp only[w,seval,Zj1]
  refine sp an hh (fun _ hh =>?_) (fun _ hh =>?_)
  ·cases hh
   try simp only[w,seval,Zj1]
  ·try simp only[w,seval,Zj1]
   obtain⟨o7,ho7,hh⟩:=ah hh
   refine aA (fun s t H e=>match s with|s5b=>∃v2b:Nat,∃v3b:Nat,t 2=.ptr 2 v2b 0∧t 3=.ptr 3 v3b 0∧t 5=.int .i64 s5b∧H 2=some ⟨v2b,39,[.int .i64 p0.ag,.sl false false p0.aa.length (ae (eI .i64) p0.aa)],false,false,false⟩∧H 3=some ⟨v3b,39,[.int .i64 p1.ag,.sl false false p1.aa.length (ae (eI .i64) p1.aa)],false,false,false⟩) (fun o x t H e=>match o with|(.inl _)=>x=.exit 0|(.inr r)=>x=.ret∧jl .clean tab none [.tmp 4] ⟨t,EH H,e⟩=some (.clean (.bool r),none)) ho7 ?_ ?_ ?_
   ·refine⟨v2j1,v3j1,?_,?_,?_,?_,?_⟩
    all_goals first|rfl|(simp only[w,seval,Zj1]<;>rfl)
   ·rintro s5b t H e ⟨v2b,v3b,Zb⟩ c hh
    simp only[lB]at hh
    try simp only[w,seval,Zb]
    refine sp an hh (fun _ hh =>?_) (fun _ hh =>?_)
    ·obtain⟨x9,hx9,hh⟩:=ah hh
     have ax9:=bN (eI .i64) hx9
     simp only[bJ]at ax9
     obtain⟨x10,hx10,hh⟩:=ah hh
     have ax10:=bN (eI .i64) hx10
     simp only[bJ]at ax10
     try simp only[w,seval,Zb,ax9,ax10]
     refine bo (by kernel_rfl) ?_
     try simp only[w,seval,Zb,ax9,ax10]
     refine sp an hh (fun _ hh =>?_) (fun _ hh =>?_)
     ·cases hh
      try simp only[w,seval,Zb,ax9,ax10]
      refine IZ ⟨rfl,?_⟩
      try simp only[w,seval,Zb,ax9,ax10]
     ·cases hh
      try simp only[w,seval,Zb,ax9,ax10]
      refine j5 ?_
      refine⟨v2b,v3b,?_,?_,?_,?_,?_⟩
      all_goals first|rfl|(simp only[w,seval,Zb,ax9,ax10]<;>rfl)
    ·cases hh
     try simp only[w,seval,Zb]
     refine ll ?_
     exact rfl
   ·rintro x t H e hx
    rcases o7 with _|rb
    ·dsimp only at hx hh
     subst hx
     cases hh
     try simp only[w,seval]
    ·dsimp only at hx hh
     obtain⟨rfl,hE⟩:=hx
     cases hh
     try simp only[bP,bH,b7,eH,eE,dI,dJ]
     exact hE
 ·clear hh
  have hh:=ho1
  try simp only[w,seval]
  refine sp bB hh (fun _ hh =>?_) (fun _ hh =>?_)
  ·cases hh
   try simp only[w,seval]
   rw[au]
   refine⟨_,rfl,?_⟩
   refine⟨0,0,?_,?_,?_,?_,?_⟩
   all_goals first|rfl|(simp only[w,seval]<;>rfl)
  ·cases hh
   try simp only[w,seval]
   rw[au]
   refine⟨_,rfl,?_⟩
   refine⟨0,0,?_,?_,?_,?_,?_⟩
   all_goals first|rfl|(simp only[w,seval]<;>rfl)
theorem CX:bW Try.prog 53 pQ:=bW.of (mode := .clean) tok bC.none mixed Try.func53 (by kernel_rfl) ⟨by kernel_rfl,by kernel_rfl⟩ (fun _=>aej (by kernel_rfl)) (fun x r h=>D5 x.1 x.2 r h)
noncomputable def qE:=fU (jg (de ay) (fQ (de ay))) (fun x:ak×ak=>lA x.1 x.2) (fun r:Bool =>.clean (.bool r))
theorem rQ (p0_0:Int) (p0_1:(List Int)) (p0_2:Int) (p0_3:(List Int)) (p1_0:Int) (p1_1:(List Int)) (p1_2:Int) (p1_3:(List Int)):qE none [.agg [.int .i64 p0_0,.sl false false p0_1.length (ae (eI .i64) p0_1),.int .i64 p0_2,.sl false false p0_3.length (ae (eI .i64) p0_3)],.agg [.int .i64 p1_0,.sl false false p1_1.length (ae (eI .i64) p1_1),.int .i64 p1_2,.sl false false p1_3.length (ae (eI .i64) p1_3)]]=(lA (ak.mk (al.mk p0_0 p0_1) (al.mk p0_2 p0_3)) (ak.mk (al.mk p1_0 p1_1) (al.mk p1_2 p1_3))).map fun r:Bool=>(.clean (.bool r),none):=aV _ _ _ ((ak.mk (al.mk p0_0 p0_1) (al.mk p0_2 p0_3)),(ak.mk (al.mk p1_0 p1_1) (al.mk p1_2 p1_3)))
noncomputable def rC:Env:=(Am.ext a6 53 false pQ)
theorem KR:bC Try.prog rC:=(bC.none.add CX false)
theorem wQ:type_of% (ai @w<|ai @vT<|@rC.eq_1):=⟨@w,@vT,@rC.eq_1⟩
theorem O3 (p0:ak) (p1:ak) (r:Bool) (hh:lA p0 p1=some r):a7 .clean tab rC FU Try.f23 none [.agg [.int .i64 p0.aH.ag,.sl false false p0.aH.aa.length (ae (eI .i64) p0.aH.aa),.int .i64 p0.aJ.ag,.sl false false p0.aJ.aa.length (ae (eI .i64) p0.aJ.aa)],.agg [.int .i64 p1.aH.ag,.sl false false p1.aH.aa.length (ae (eI .i64) p1.aH.aa),.int .i64 p1.aJ.ag,.sl false false p1.aJ.aa.length (ae (eI .i64) p1.aJ.aa)]]=some (.clean (.bool r),none):=by
 refine aB rfl Try.ntmps23 Try.results23 ?_
 unfold lA at hh
 obtain⟨r1,hr1,hh⟩:=ah hh
 try simp only[wQ,seval,hr1]
 refine sp dW hh (fun _ hh =>?_) (fun _ hh =>?_)
 ·obtain⟨r3,hr3,hh⟩:=ah hh
  cases hh
  try simp only[wQ,seval,hr1,hr3]
 ·cases hh
  try simp only[wQ,seval,hr1]
theorem zH:bW Try.prog 23 qE:=bW.of (mode := .clean) tok KR mixed Try.func23 (by kernel_rfl) ⟨by kernel_rfl,by kernel_rfl⟩ (fun _=>aej (by kernel_rfl)) (fun x r h=>O3 x.1 x.2 r h)
noncomputable def wg:=fU (jg (mX ay) (fQ (mX ay))) (fun x:(List ak)×(List ak)=>tQ x.1 x.2) (fun r:Bool =>.clean (.bool r))
theorem Da (p0:(List ak)) (p1:(List ak)):wg none [.sl false false p0.length (ae ay p0),.sl false false p1.length (ae ay p1)]=(tQ p0 p1).map fun r:Bool=>(.clean (.bool r),none):=aV _ _ _ (p0,p1)
noncomputable def rD:Env:=(Am.ext a6 23 false qE)
theorem KS:bC Try.prog rD:=(bC.none.add zH false)
theorem eu:type_of% (ai @w<|ai @rQ<|@rD.eq_1):=⟨@w,@rQ,@rD.eq_1⟩
theorem O4 (p0:(List ak)) (p1:(List ak)) (r:Bool) (hh:tQ p0 p1=some r):a7 .clean tab rD FU Try.f16 none [.sl false false p0.length (ae ay p0),.sl false false p1.length (ae ay p1)]=some (.clean (.bool r),none):=by
 refine aB rfl Try.ntmps16 Try.results16 ?_
 unfold tQ at hh
 try simp only[eu,seval]
 refine sp an hh (fun _ hh =>?_) (fun _ hh =>?_)
 ·cases hh
  try simp only[eu,seval]
 ·try simp only[eu,seval]
  obtain⟨o7,ho7,hh⟩:=ah hh
  refine aA (fun s t H e=>match s with|s5a=>t 0=.sl false false p0.length (ae ay p0)∧t 1=.sl false false p1.length (ae ay p1)∧t 5=.int .i64 s5a) (fun o x t H e=>match o with|(.inl _)=>x=.exit 0|(.inr r)=>x=.ret∧jl .clean tab none [.tmp 4] ⟨t,EH H,e⟩=some (.clean (.bool r),none)) ho7 ?_ ?_ ?_
  ·refine⟨?_,?_,?_⟩
   all_goals first|rfl|(simp only[eu,seval]<;>rfl)
  ·rintro s5a t H e Za c hh
   simp only[zP]at hh
   try simp only[eu,seval,Za]
   refine sp an hh (fun _ hh =>?_) (fun _ hh =>?_)
   ·obtain⟨x9,hx9,hh⟩:=ah hh
    have ax9:=bN ay hx9
    simp only[bJ]at ax9
    obtain⟨x10,hx10,hh⟩:=ah hh
    have ax10:=bN ay hx10
    simp only[bJ]at ax10
    obtain⟨r11,hr11,hh⟩:=ah hh
    try simp only[eu,seval,Za,ax9,ax10,hr11]
    refine bo (by kernel_rfl) ?_
    try simp only[eu,seval,Za,ax9,ax10,hr11]
    refine sp an hh (fun _ hh =>?_) (fun _ hh =>?_)
    ·cases hh
     try simp only[eu,seval,Za,ax9,ax10,hr11]
     refine IZ ⟨rfl,?_⟩
     try simp only[eu,seval,Za,ax9,ax10,hr11]
    ·cases hh
     try simp only[eu,seval,Za,ax9,ax10,hr11]
     refine j5 ?_
     refine⟨?_,?_,?_⟩
     all_goals first|rfl|(simp only[eu,seval,Za,ax9,ax10,hr11]<;>rfl)
   ·cases hh
    try simp only[eu,seval,Za]
    refine ll ?_
    exact rfl
  ·rintro x t H e hx
   rcases o7 with _|ra
   ·dsimp only at hx hh
    subst hx
    cases hh
    try simp only[eu,seval]
   ·dsimp only at hx hh
    obtain⟨rfl,hE⟩:=hx
    cases hh
    try simp only[bP,bH,b7,eH,eE,dI,dJ]
    exact hE
theorem MF:bW Try.prog 16 wg:=bW.of (mode := .clean) tok KS mixed Try.func16 (by kernel_rfl) ⟨by kernel_rfl,by kernel_rfl⟩ (fun _=>aej (by kernel_rfl)) (fun x r h=>O4 x.1 x.2 r h)
noncomputable def pN:=fU (jg (de eL) (fQ (de eL))) (fun x:al×al=>mz x.1 x.2) (fun r:Int =>.clean (.int .i64 r))
theorem vQ (p0_0:Int) (p0_1:(List Int)) (p1_0:Int) (p1_1:(List Int)):pN none [.agg [.int .i64 p0_0,.sl false false p0_1.length (ae (eI .i64) p0_1)],.agg [.int .i64 p1_0,.sl false false p1_1.length (ae (eI .i64) p1_1)]]=(mz (al.mk p0_0 p0_1) (al.mk p1_0 p1_1)).map fun r:Int=>(.clean (.int .i64 r),none):=aV _ _ _ ((al.mk p0_0 p0_1),(al.mk p1_0 p1_1))
noncomputable def mh:Env:=(Am.ext (Am.ext (Am.ext a6 50 false eC) 66 false iu) 78 false jI)
theorem B8:bC Try.prog mh:=(((bC.none.add fe false).add lx false).add oH false)
theorem da:type_of% (ai @w<|ai @cj<|ai @fk<|ai @iC<|@mh.eq_1):=⟨@w,@cj,@fk,@iC,@mh.eq_1⟩
theorem DZ (p0:al) (p1:al) (r:Int) (hh:mz p0 p1=some r):a7 .clean tab mh FU Try.f54 none [.agg [.int .i64 p0.ag,.sl false false p0.aa.length (ae (eI .i64) p0.aa)],.agg [.int .i64 p1.ag,.sl false false p1.aa.length (ae (eI .i64) p1.aa)]]=some (.clean (.int .i64 r),none):=by
 refine aB rfl Try.ntmps54 Try.results54 ?_
 unfold mz at hh
 obtain⟨r1,hr1,hh⟩:=ah hh
 try simp only[da,seval,hr1]
 obtain⟨o2,ho2,hh⟩:=ah hh
 refine bS 0 (fun s t H e=>match s with|s12j1=>∃v2j1:Nat,∃v3j1:Nat,t 2=.ptr 2 v2j1 0∧t 3=.ptr 3 v3j1 0∧t 12=.bool s12j1∧H 2=some ⟨v2j1,39,[.int .i64 p0.ag,.sl false false p0.aa.length (ae (eI .i64) p0.aa)],false,false,false⟩∧H 3=some ⟨v3j1,39,[.int .i64 p1.ag,.sl false false p1.aa.length (ae (eI .i64) p1.aa)],false,false,false⟩) (fun s=>s=o2) ?_ ?_
 ·rintro s12j1 t H e ⟨v2j1,v3j1,Zj1⟩ rfl
  try dsimp only at hh
  try simp only[da,seval,hr1,Zj1]
  refine sp an hh (fun _ hh =>?_) (fun _ hh =>?_)
  ·cases hh
   try simp only[da,seval,hr1,Zj1]
  ·try simp only[da,seval,hr1,Zj1]
   refine sp an hh (fun _ hh =>?_) (fun _ hh =>?_)
   ·obtain⟨r5,hr5,hh⟩:=ah hh
    cases hh
    try simp only[da,seval,hr1,Zj1,hr5]
   ·obtain⟨r6,hr6,hh⟩:=ah hh
    try simp only[da,seval,hr1,Zj1,hr6]
    refine bo (by kernel_rfl) ?_
    cases hh
    try simp only[da,seval,hr1,Zj1,hr6]
 ·clear hh
  have hh:=ho2
  try simp only[da,seval,hr1]
  refine sp bB hh (fun _ hh =>?_) (fun _ hh =>?_)
  ·cases hh
   try simp only[da,seval,hr1]
   rw[au]
   refine⟨_,rfl,?_⟩
   refine⟨0,0,?_,?_,?_,?_,?_⟩
   all_goals first|rfl|(simp only[da,seval,hr1]<;>rfl)
  ·obtain⟨r8,hr8,hh⟩:=ah hh
   cases hh
   try simp only[da,seval,hr1,hr8]
   rw[au]
   refine⟨_,rfl,?_⟩
   refine⟨0,0,?_,?_,?_,?_,?_⟩
   all_goals first|rfl|(simp only[da,seval,hr1,hr8]<;>rfl)
theorem CM:bW Try.prog 54 pN:=bW.of (mode := .clean) tok B8 mixed Try.func54 (by kernel_rfl) ⟨by kernel_rfl,by kernel_rfl⟩ (fun _=>aej (by kernel_rfl)) (fun x r h=>DZ x.1 x.2 r h)
noncomputable def nY:=fU (jg (de ay) (fQ (de ay))) (fun x:ak×ak=>k9 x.1 x.2) (fun r:Int =>.clean (.int .i64 r))
theorem tK (p0_0:Int) (p0_1:(List Int)) (p0_2:Int) (p0_3:(List Int)) (p1_0:Int) (p1_1:(List Int)) (p1_2:Int) (p1_3:(List Int)):nY none [.agg [.int .i64 p0_0,.sl false false p0_1.length (ae (eI .i64) p0_1),.int .i64 p0_2,.sl false false p0_3.length (ae (eI .i64) p0_3)],.agg [.int .i64 p1_0,.sl false false p1_1.length (ae (eI .i64) p1_1),.int .i64 p1_2,.sl false false p1_3.length (ae (eI .i64) p1_3)]]=(k9 (ak.mk (al.mk p0_0 p0_1) (al.mk p0_2 p0_3)) (ak.mk (al.mk p1_0 p1_1) (al.mk p1_2 p1_3))).map fun r:Int=>(.clean (.int .i64 r),none):=aV _ _ _ ((ak.mk (al.mk p0_0 p0_1) (al.mk p0_2 p0_3)),(ak.mk (al.mk p1_0 p1_1) (al.mk p1_2 p1_3)))
noncomputable def lh:Env:=(Am.ext (Am.ext (Am.ext a6 22 false ew) 48 false jh) 54 false pN)
theorem Ag:bC Try.prog lh:=(((bC.none.add fi false).add mo false).add CM false)
theorem dw:type_of% (ai @w<|ai @cl<|ai @gm<|ai @vQ<|@lh.eq_1):=⟨@w,@cl,@gm,@vQ,@lh.eq_1⟩
theorem Cu (p0:ak) (p1:ak) (r:Int) (hh:k9 p0 p1=some r):a7 .clean tab lh FU Try.f24 none [.agg [.int .i64 p0.aH.ag,.sl false false p0.aH.aa.length (ae (eI .i64) p0.aH.aa),.int .i64 p0.aJ.ag,.sl false false p0.aJ.aa.length (ae (eI .i64) p0.aJ.aa)],.agg [.int .i64 p1.aH.ag,.sl false false p1.aH.aa.length (ae (eI .i64) p1.aH.aa),.int .i64 p1.aJ.ag,.sl false false p1.aJ.aa.length (ae (eI .i64) p1.aJ.aa)]]=some (.clean (.int .i64 r),none):=by
 refine aB rfl Try.ntmps24 Try.results24 ?_
 unfold k9 at hh
 obtain⟨r1,hr1,hh⟩:=ah hh
 try simp only[dw,seval,hr1]
 obtain⟨o2,ho2,hh⟩:=ah hh
 refine bS 0 (fun s t H e=>match s with|s12j1=>∃v2j1:Nat,∃v3j1:Nat,t 2=.ptr 2 v2j1 0∧t 3=.ptr 3 v3j1 0∧t 12=.bool s12j1∧H 2=some ⟨v2j1,41,[.int .i64 p0.aH.ag,.sl false false p0.aH.aa.length (ae (eI .i64) p0.aH.aa),.int .i64 p0.aJ.ag,.sl false false p0.aJ.aa.length (ae (eI .i64) p0.aJ.aa)],false,false,false⟩∧H 3=some ⟨v3j1,41,[.int .i64 p1.aH.ag,.sl false false p1.aH.aa.length (ae (eI .i64) p1.aH.aa),.int .i64 p1.aJ.ag,.sl false false p1.aJ.aa.length (ae (eI .i64) p1.aJ.aa)],false,false,false⟩) (fun s=>s=o2) ?_ ?_
 ·rintro s12j1 t H e ⟨v2j1,v3j1,Zj1⟩ rfl
  try dsimp only at hh
  try simp only[dw,seval,hr1,Zj1]
  refine sp an hh (fun _ hh =>?_) (fun _ hh =>?_)
  ·cases hh
   try simp only[dw,seval,hr1,Zj1]
  ·obtain⟨r4,hr4,hh⟩:=ah hh
   obtain⟨r5,hr5,hh⟩:=ah hh
   obtain⟨r6,hr6,hh⟩:=ah hh
   try simp only[dw,seval,hr1,Zj1,hr4,hr5,hr6]
   refine bo (by kernel_rfl) ?_
   cases hh
   try simp only[dw,seval,hr1,Zj1,hr4,hr5,hr6]
 ·clear hh
  have hh:=ho2
  try simp only[dw,seval,hr1]
  refine sp bB hh (fun _ hh =>?_) (fun _ hh =>?_)
  ·cases hh
   try simp only[dw,seval,hr1]
   rw[au]
   refine⟨_,rfl,?_⟩
   refine⟨0,0,?_,?_,?_,?_,?_⟩
   all_goals first|rfl|(simp only[dw,seval,hr1]<;>rfl)
  ·obtain⟨r8,hr8,hh⟩:=ah hh
   cases hh
   try simp only[dw,seval,hr1,hr8]
   rw[au]
   refine⟨_,rfl,?_⟩
   refine⟨0,0,?_,?_,?_,?_,?_⟩
   all_goals first|rfl|(simp only[dw,seval,hr1,hr8]<;>rfl)
theorem Al:bW Try.prog 24 nY:=bW.of (mode := .clean) tok Ag mixed Try.func24 (by kernel_rfl) ⟨by kernel_rfl,by kernel_rfl⟩ (fun _=>aej (by kernel_rfl)) (fun x r h=>Cu x.1 x.2 r h)
noncomputable def me:=fU (jg (de mD) (jg (mX ay) (fQ (mX ay)))) (fun x:bR×(List ak)×(List ak)=>kK x.1 x.2.1 x.2.2) (fun r:Bool =>.clean (.bool r))
theorem jS (p0_0:Int) (p0_1:(List dk)) (p1:(List ak)) (p2:(List ak)):me none [.agg [.int .i64 p0_0,.sl false false p0_1.length (ae ba p0_1)],.sl false false p1.length (ae ay p1),.sl false false p2.length (ae ay p2)]=(kK (bR.mk p0_0 p0_1) p1 p2).map fun r:Bool=>(.clean (.bool r),none):=aV _ _ _ ((bR.mk p0_0 p0_1),p1,p2)
noncomputable def mn:Env:=(Am.ext (Am.ext (Am.ext (Am.ext (Am.ext a6 11 false kp) 24 false nY) 39 false jX) 40 false kS) 43 false ji)
theorem Cd:bC Try.prog mn:=(((((bC.none.add nG false).add Al false).add qk false).add wE false).add mq false)
theorem aS:type_of% (ai @w<|ai @gW<|ai @tK<|ai @j7<|ai @pD<|ai @gn<|@mn.eq_1):=⟨@w,@gW,@tK,@j7,@pD,@gn,@mn.eq_1⟩
end Go.Proofs.Ytchndpjlijbplaa.Am
