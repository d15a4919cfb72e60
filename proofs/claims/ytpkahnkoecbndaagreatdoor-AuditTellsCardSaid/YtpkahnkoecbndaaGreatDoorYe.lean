/- Part of a proof, made small by a program (wip/mini.py). -/
import Derived.Test.YtpkahnkoecbndaaGreatDoorYd
namespace Go.Proofs.YtpkahnkoecbndaaGreatDoor.Am
open Go.RowKit Go.Proofs.YtpkahnkoecbndaaGreatDoor.P
set_option maxRecDepth 100000
set_option maxHeartbeats 4000000
set_option linter.unusedSimpArgs false
set_option linter.unusedVariables false
theorem SQ (p0:(List Int)) (p1:(List Int)) (r:(List Int)) (hh:nP p0 p1=some r):aM (.fresh 3 1) tab vL FU Tryz.f164 none [.sl false false p0.length (ab (eI .i64) p0),.sl false false p1.length (ab (eI .i64) p1)]=some (.fresh 3 1 r.length (ab (eI .i64) r),none):=by
 refine aq rfl Tryz.ntmps164 Tryz.results164 ?_
 unfold nP at hh
 obtain⟨x1,hx1,hh⟩:=ae hh
 obtain⟨q2a,q2b,q2c,q2d,q2e⟩:=mk_one (eI .i64) hx1
 simp only[b6]at q2d
 try simp only[eP,seval,-Int.reduceToNat,q2a,q2b,q2c,q2d,q2e]
 obtain⟨o20,ho20,hh⟩:=ae hh
 refine ax (fun s t H e=>match s with|(s20a,l5a)=>∃v5a:Nat,t 1=.sl false false p1.length (ab (eI .i64) p1)∧t 5=.buf 5 v5a 1 0 (l5a).length∧t 18=.sl false false p0.length (ab (eI .i64) p0)∧t 19=.int .i64 (p0.length:Int)∧t 20=.int .i64 s20a∧H 5=some ⟨v5a,3,ab (eI .i64) l5a,false,true,false⟩) (fun o x t H e=>match o with|l5ax=>x=.exit 0∧∃v5ax:Nat,t 5=.buf 5 v5ax 1 0 (l5ax).length∧H 5=some ⟨v5ax,3,ab (eI .i64) l5ax,false,true,false⟩) ho20 ?_ ?_ ?_
 ·refine⟨1,?_,?_,?_,?_,?_,?_⟩
  all_goals first|rfl|(simp only[eP,seval,-Int.reduceToNat,q2a,q2b,q2c,q2d,q2e]<;>rfl)
 ·rintro⟨s20a,l5a⟩ t H e ⟨v5a,Za⟩ c hh
  simp only[sg]at hh
  try simp only[eP,seval,-Int.reduceToNat,q2a,q2b,q2c,q2d,q2e,Za]
  refine sp aj hh (fun _ hh =>?_) (fun _ hh =>?_)
  ·obtain⟨x22,hx22,hh⟩:=ae hh
   have ax22:=bF (eI .i64) hx22
   simp only[b6]at ax22
   try simp only[eP,seval,-Int.reduceToNat,q2a,q2b,q2c,q2d,q2e,Za,ax22]
   obtain⟨o29,ho29,hh⟩:=ae hh
   refine ax (fun s t H e=>match s with|(s8c,s27c,l5c)=>∃v5c:Nat,t 1=.sl false false p1.length (ab (eI .i64) p1)∧t 5=.buf 5 v5c 1 0 (l5c).length∧t 6=.int .i64 s20a∧t 7=.int .i64 x22∧t 8=.int .i64 s8c∧t 18=.sl false false p0.length (ab (eI .i64) p0)∧t 19=.int .i64 (p0.length:Int)∧t 20=.int .i64 s20a∧t 25=.sl false false p1.length (ab (eI .i64) p1)∧t 26=.int .i64 (p1.length:Int)∧t 27=.int .i64 s27c∧H 5=some ⟨v5c,3,ab (eI .i64) l5c,false,true,false⟩) (fun o x t H e=>match o with|(s8cx,l5cx)=>x=.exit 2∧∃v5cx:Nat,t 1=.sl false false p1.length (ab (eI .i64) p1)∧t 5=.buf 5 v5cx 1 0 (l5cx).length∧t 6=.int .i64 s20a∧t 8=.int .i64 s8cx∧t 18=.sl false false p0.length (ab (eI .i64) p0)∧t 19=.int .i64 (p0.length:Int)∧t 20=.int .i64 s20a∧H 5=some ⟨v5cx,3,ab (eI .i64) l5cx,false,true,false⟩) ho29 ?_ ?_ ?_
   ·refine⟨v5a,?_,?_,?_,?_,?_,?_,?_,?_,?_,?_,?_,?_⟩
    all_goals first|rfl|(simp only[eP,seval,-Int.reduceToNat,q2a,q2b,q2c,q2d,q2e,Za,ax22]<;>rfl)
   ·rintro⟨s8c,s27c,l5c⟩ t H e ⟨v5c,Zc⟩ c hh
    simp only[sh]at hh
    try simp only[eP,seval,-Int.reduceToNat,q2a,q2b,q2c,q2d,q2e,ax22,Zc]
    refine sp aj hh (fun _ hh =>?_) (fun _ hh =>?_)
    ·obtain⟨x31,hx31,hh⟩:=ae hh
     have ax31:=bF (eI .i64) hx31
     simp only[b6]at ax31
     obtain⟨x32,hx32,hh⟩:=ae hh
     have ax32:=bF (eI .i64) hx32
     simp only[b6]at ax32
     obtain⟨x33,hx33,hh⟩:=ae hh
     have q34:=tq hx33
     have ax32:=bF (eI .i64) hx32
     simp only[b6]at ax32
     have p35:=qt (eI .i64) (x':=oN .and .i64 (IntKind.i64.wrap ((IntKind.i64.wrap (x32+(IntKind.i64.wrap (x22*x31))))+s8c)) 1048575) (fo:=0) (cs:=[.int .i64 (oN .and .i64 (IntKind.i64.wrap ((IntKind.i64.wrap (x32+(IntKind.i64.wrap (x22*x31))))+s8c)) 1048575)]) hx32 rfl (Nat.le_of_ble_eq_true rfl)
     simp only[b6,Nat.add_zero]at p35
     have up35:=p35
     simp only[putCells,List.length_cons,List.length_nil,Nat.zero_add,Nat.reduceAdd]at up35
     cases hh
     try simp only[eP,seval,-Int.reduceToNat,q2a,q2b,q2c,q2d,q2e,ax22,Zc,ax31,ax32,q34,ax32,p35,up35]
     refine gA ?_
     refine⟨v5c,?_,?_,?_,?_,?_,?_,?_,?_,?_,?_,?_,?_⟩
     all_goals first|rfl|(simp only[eP,seval,-Int.reduceToNat,q2a,q2b,q2c,q2d,q2e,ax22,Zc,ax31,ax32,q34,ax32,p35,up35]<;>rfl)
    ·cases hh
     try simp only[eP,seval,-Int.reduceToNat,q2a,q2b,q2c,q2d,q2e,ax22,Zc]
     refine iS ?_
     refine⟨rfl,⟨v5c,?_,?_,?_,?_,?_,?_,?_,?_⟩⟩
     all_goals first|rfl|(simp only[eP,seval,-Int.reduceToNat,q2a,q2b,q2c,q2d,q2e,ax22,Zc]<;>rfl)
   ·rintro x t H e hx
    rcases o29 with⟨s8cx,l5cx⟩
    dsimp only at hx hh
    obtain⟨rfl,⟨v5cx,Zcx⟩⟩:=hx
    obtain⟨x36,hx36,hh⟩:=ae hh
    have ax36:=bF (eI .i64) hx36
    simp only[b6]at ax36
    have ax36:=bF (eI .i64) hx36
    simp only[b6]at ax36
    have p37:=qt (eI .i64) (x':=IntKind.i64.wrap (x36+s8cx)) (fo:=0) (cs:=[.int .i64 (IntKind.i64.wrap (x36+s8cx))]) hx36 rfl (Nat.le_of_ble_eq_true rfl)
    simp only[b6,Nat.add_zero]at p37
    have up37:=p37
    simp only[putCells,List.length_cons,List.length_nil,Nat.zero_add,Nat.reduceAdd]at up37
    cases hh
    try simp only[eP,seval,-Int.reduceToNat,q2a,q2b,q2c,q2d,q2e,ax22,Zcx,ax36,ax36,p37,up37]
    refine gA ?_
    refine⟨v5cx,?_,?_,?_,?_,?_,?_⟩
    all_goals first|rfl|(simp only[eP,seval,-Int.reduceToNat,q2a,q2b,q2c,q2d,q2e,ax22,Zcx,ax36,ax36,p37,up37]<;>rfl)
  ·cases hh
   try simp only[eP,seval,-Int.reduceToNat,q2a,q2b,q2c,q2d,q2e,Za]
   refine iS ?_
   refine⟨rfl,⟨v5a,?_,?_⟩⟩
   all_goals first|rfl|(simp only[eP,seval,-Int.reduceToNat,q2a,q2b,q2c,q2d,q2e,Za]<;>rfl)
 ·rintro x t H e hx
  obtain⟨l5ax,rfl⟩:∃z,z=o20:=⟨_,rfl⟩
  dsimp only at hx hh
  obtain⟨rfl,⟨v5ax,Zax⟩⟩:=hx
  have i38:=JW [] [] l5ax
  try simp only[List.nil_append,List.append_nil,List.length_nil,aZ,List.length_set,b6]at i38
  obtain⟨r39,hr39,hh⟩:=ae hh
  cases hh
  try simp only[eP,seval,-Int.reduceToNat,q2a,q2b,q2c,q2d,q2e,Zax,i38,hr39]
theorem Em:bE Tryz.prog 164 vr:=bE.of (mode:=(.fresh 3 1)) tok OG mixed Tryz.func164 (by kernel_rfl) ⟨by kernel_rfl,by kernel_rfl⟩ (fun _=>Nat.le_of_ble_eq_true (by kernel_rfl)) (fun x r h=>SQ x.1 x.2 r h)
noncomputable def oH:=TF 3 (eI .i64) (cH (eZ (eI .i64)) (dn (aI .i64))) (fun (l:(List Int)) (x:(List Int)×Int)=>fj l x.1 x.2) (fun r:Int =>.clean (.int .i64 r))
theorem EA (pre post:List D) (p0:(List Int)) (p1:(List Int)) (p2:Int):oH (some (.buf 0 0 1 pre.length p0.length,⟨0,3,pre++(ab (eI .i64) p0++post),false,true,false⟩)) [.sl false false p1.length (ab (eI .i64) p1),.int .i64 p2]=(fj p0 p1 p2).map fun r=>(.clean (.int .i64 r.2),some ⟨0,3,pre++(ab (eI .i64) r.1++post),false,true,false⟩):=Eg _ _ _ _ _ pre post p0 (p1,p2)
theorem Ea (pre post:List D) (p0:(List Int)) (p1:(List Int)) (p2:Int) (r:(List Int)×(Int)) (hh:fj p0 p1 p2=some r):aM .clean tab aU FU Tryz.f165 (some (.buf 0 0 1 pre.length p0.length,⟨0,3,pre++(ab (eI .i64) p0++post),false,true,false⟩)) [.sl false false p1.length (ab (eI .i64) p1),.int .i64 p2]=some (.clean (.int .i64 r.2),some ⟨0,3,pre++(ab (eI .i64) r.1++post),false,true,false⟩):=by
 refine pB rfl Tryz.ntmps165 Tryz.results165 ?_
 unfold fj at hh
 obtain⟨rw,hrw,hh⟩:=ae hh
 split at hh
 rotate_left
 ·cases hh
 cases hh
 rename_i hlen
 replace hh:=hrw
 unfold oM at hh
 try simp only[w,seval,-Int.reduceToNat]
 obtain⟨o9,ho9,hh⟩:=ae hh
 refine ax (fun s t H e=>match s with|(s7a,s14a,l0a)=>t 0=.buf 0 0 1 pre.length (l0a).length∧t 1=.sl false false p1.length (ab (eI .i64) p1)∧t 2=.int .i64 p2∧t 7=.int .i64 s7a∧t 13=.int .i64 ((p0).length:Int)∧t 14=.int .i64 s14a∧H 0=some ⟨0,3,pre++(ab (eI .i64) l0a++post),false,true,false⟩) (fun o x t H e=>match o with|(s7ax,l0ax)=>x=.exit 0∧t 0=.buf 0 0 1 pre.length (l0ax).length∧t 1=.sl false false p1.length (ab (eI .i64) p1)∧t 2=.int .i64 p2∧t 7=.int .i64 s7ax∧H 0=some ⟨0,3,pre++(ab (eI .i64) l0ax++post),false,true,false⟩) ho9 ?_ ?_ ?_
 ·refine⟨?_,?_,?_,?_,?_,?_,?_⟩
  all_goals first|rfl|(simp only[w,seval,-Int.reduceToNat]<;>rfl)
 ·rintro⟨s7a,s14a,l0a⟩ t H e Za c hh
  simp only[jV]at hh
  try simp only[w,seval,-Int.reduceToNat,Za]
  refine sp aj hh (fun _ hh =>?_) (fun _ hh =>?_)
  ·obtain⟨x11,hx11,hh⟩:=ae hh
   have ax11:=uS (pre:=pre) (post:=post) (eI .i64) hx11
   simp only[b6]at ax11
   try simp only[w,seval,-Int.reduceToNat,Za,ax11]
   obtain⟨o12,ho12,hh⟩:=ae hh
   refine ns 0 (fun s t H e=>match s with|s9j3=>t 0=.buf 0 0 1 pre.length (l0a).length∧t 1=.sl false false p1.length (ab (eI .i64) p1)∧t 2=.int .i64 p2∧t 8=.int .i64 s14a∧t 9=.int .i64 s9j3∧t 13=.int .i64 ((p0).length:Int)∧t 14=.int .i64 s14a∧H 0=some ⟨0,3,pre++(ab (eI .i64) l0a++post),false,true,false⟩) (fun s=>s=o12) ?_ ?_
   ·rintro s9j3 t H e Zj3 rfl
    try dsimp only at hh
    have ax11:=uS (pre:=pre) (post:=post) (eI .i64) hx11
    simp only[b6]at ax11
    have p13:=ze (pre:=pre) (post:=post) (eI .i64) (y':=oN .and .i64 s9j3 1048575) hx11
    simp only[b6]at p13
    have up13:=p13
    simp only[putCells,List.length_cons,List.length_nil,Nat.zero_add,Nat.reduceAdd]at up13
    obtain⟨x14,hx14,hh⟩:=ae hh
    have q15:=tq hx14
    cases hh
    try simp only[w,seval,-Int.reduceToNat,ax11,Zj3,ax11,p13,up13,q15]
    refine gA ?_
    refine⟨?_,?_,?_,?_,?_,?_,?_⟩
    all_goals first|rfl|(simp only[w,seval,-Int.reduceToNat,ax11,Zj3,ax11,p13,up13,q15]<;>rfl)
   ·clear hh
    have hh:=ho12
    try simp only[w,seval,-Int.reduceToNat,Za,ax11]
    refine sp aj hh (fun _ hh =>?_) (fun _ hh =>?_)
    ·obtain⟨x17,hx17,hh⟩:=ae hh
     have ax17:=bF (eI .i64) hx17
     simp only[b6]at ax17
     cases hh
     try simp only[w,seval,-Int.reduceToNat,Za,ax11,ax17]
     rw[ak]
     refine⟨_,rfl,?_⟩
     refine⟨?_,?_,?_,?_,?_,?_,?_,?_⟩
     all_goals first|rfl|(simp only[w,seval,-Int.reduceToNat,Za,ax11,ax17]<;>rfl)
    ·cases hh
     try simp only[w,seval,-Int.reduceToNat,Za,ax11]
     rw[ak]
     refine⟨_,rfl,?_⟩
     refine⟨?_,?_,?_,?_,?_,?_,?_,?_⟩
     all_goals first|rfl|(simp only[w,seval,-Int.reduceToNat,Za,ax11]<;>rfl)
  ·cases hh
   try simp only[w,seval,-Int.reduceToNat,Za]
   refine iS ?_
   refine⟨rfl,⟨?_,?_,?_,?_,?_⟩⟩
   all_goals first|rfl|(simp only[w,seval,-Int.reduceToNat,Za]<;>rfl)
 ·rintro x t H e hx
  rcases o9 with⟨s7ax,l0ax⟩
  dsimp only at hx hh
  obtain⟨rfl,Zax⟩:=hx
  try simp only[w,seval,-Int.reduceToNat,Zax]
  refine sp aj hh (fun _ hh =>?_) (fun _ hh =>?_)
  ·cases hh
   try simp only[w,seval,-Int.reduceToNat,Zax]
  ·try simp only[w,seval,-Int.reduceToNat,Zax]
   obtain⟨o27,ho27,hh⟩:=ae hh
   refine ax (fun s t H e=>match s with|(s10d,s49d,l0d)=>t 0=.buf 0 0 1 pre.length (l0d).length∧t 1=.sl false false p1.length (ab (eI .i64) p1)∧t 2=.int .i64 p2∧t 10=.int .i64 s10d∧t 48=.int .i64 ((l0ax).length:Int)∧t 49=.int .i64 s49d∧H 0=some ⟨0,3,pre++(ab (eI .i64) l0d++post),false,true,false⟩) (fun o x t H e=>match o with|l0dx=>x=.exit 2∧t 0=.buf 0 0 1 pre.length (l0dx).length∧t 2=.int .i64 p2∧H 0=some ⟨0,3,pre++(ab (eI .i64) l0dx++post),false,true,false⟩) ho27 ?_ ?_ ?_
   ·refine⟨?_,?_,?_,?_,?_,?_,?_⟩
    all_goals first|rfl|(simp only[w,seval,-Int.reduceToNat,Zax]<;>rfl)
   ·rintro⟨s10d,s49d,l0d⟩ t H e Zd c hh
    simp only[jW]at hh
    try simp only[w,seval,-Int.reduceToNat,Zd]
    refine sp aj hh (fun _ hh =>?_) (fun _ hh =>?_)
    ·obtain⟨x29,hx29,hh⟩:=ae hh
     have ax29:=uS (pre:=pre) (post:=post) (eI .i64) hx29
     simp only[b6]at ax29
     try simp only[w,seval,-Int.reduceToNat,Zd,ax29]
     obtain⟨o30,ho30,hh⟩:=ae hh
     refine ns 0 (fun s t H e=>match s with|s10j6=>t 0=.buf 0 0 1 pre.length (l0d).length∧t 1=.sl false false p1.length (ab (eI .i64) p1)∧t 2=.int .i64 p2∧t 10=.int .i64 s10j6∧t 11=.int .i64 s49d∧t 48=.int .i64 ((l0ax).length:Int)∧t 49=.int .i64 s49d∧H 0=some ⟨0,3,pre++(ab (eI .i64) l0d++post),false,true,false⟩) (fun s=>s=o30) ?_ ?_
     ·rintro s10j6 t H e Zj6 rfl
      try dsimp only at hh
      have ax29:=uS (pre:=pre) (post:=post) (eI .i64) hx29
      simp only[b6]at ax29
      have p31:=ze (pre:=pre) (post:=post) (eI .i64) (y':=oN .and .i64 s10j6 1048575) hx29
      simp only[b6]at p31
      have up31:=p31
      simp only[putCells,List.length_cons,List.length_nil,Nat.zero_add,Nat.reduceAdd]at up31
      obtain⟨x32,hx32,hh⟩:=ae hh
      have q33:=tq hx32
      cases hh
      try simp only[w,seval,-Int.reduceToNat,ax29,Zj6,ax29,p31,up31,q33]
      refine gA ?_
      refine⟨?_,?_,?_,?_,?_,?_,?_⟩
      all_goals first|rfl|(simp only[w,seval,-Int.reduceToNat,ax29,Zj6,ax29,p31,up31,q33]<;>rfl)
     ·clear hh
      have hh:=ho30
      try simp only[w,seval,-Int.reduceToNat,Zd,ax29]
      refine sp aj hh (fun _ hh =>?_) (fun _ hh =>?_)
      ·obtain⟨x35,hx35,hh⟩:=ae hh
       have ax35:=bF (eI .i64) hx35
       simp only[b6]at ax35
       cases hh
       try simp only[w,seval,-Int.reduceToNat,Zd,ax29,ax35]
       rw[ak]
       refine⟨_,rfl,?_⟩
       refine⟨?_,?_,?_,?_,?_,?_,?_,?_⟩
       all_goals first|rfl|(simp only[w,seval,-Int.reduceToNat,Zd,ax29,ax35]<;>rfl)
      ·cases hh
       try simp only[w,seval,-Int.reduceToNat,Zd,ax29]
       rw[ak]
       refine⟨_,rfl,?_⟩
       refine⟨?_,?_,?_,?_,?_,?_,?_,?_⟩
       all_goals first|rfl|(simp only[w,seval,-Int.reduceToNat,Zd,ax29]<;>rfl)
    ·cases hh
     try simp only[w,seval,-Int.reduceToNat,Zd]
     refine iS ?_
     refine⟨rfl,⟨?_,?_,?_⟩⟩
     all_goals first|rfl|(simp only[w,seval,-Int.reduceToNat,Zd]<;>rfl)
   ·rintro x t H e hx
    obtain⟨l0dx,rfl⟩:∃z,z=o27:=⟨_,rfl⟩
    dsimp only at hx hh
    obtain⟨rfl,Zdx⟩:=hx
    cases hh
    try simp only[w,seval,-Int.reduceToNat,Zdx]
theorem B5:bE Tryz.prog 165 oH:=bE.Rh (mode := .clean) tok bK.none mixed Tryz.func165 (by kernel_rfl) ⟨by kernel_rfl,by kernel_rfl⟩ (fun _=>Nat.le_of_ble_eq_true (by kernel_rfl)) (fun pre post l x l' r h=>Ea pre post l x.1 x.2 (l',r) h)
noncomputable def zG:=dI (cH (eZ (eI .i64)) (dn (eZ (eI .i64)))) (fun x:(List Int)×(List Int)=>sc x.1 x.2) (fun r:(List Int)×(List Int) =>.clean (.tup [.sl false false r.1.length (ab (eI .i64) r.1),.sl false false r.2.length (ab (eI .i64) r.2)]))
theorem HU (p0:(List Int)) (p1:(List Int)):zG none [.sl false false p0.length (ab (eI .i64) p0),.sl false false p1.length (ab (eI .i64) p1)]=(sc p0 p1).map fun r:(List Int)×(List Int)=>(.clean (.tup [.sl false false r.1.length (ab (eI .i64) r.1),.sl false false r.2.length (ab (eI .i64) r.2)]),none):=aC _ _ _ (p0,p1)
noncomputable def vK:Env:=(Am.ext (Am.ext (Am.ext (Am.ext (Am.ext (Am.ext aU 65 false e9) 129 false mi) 162 false uc) 163 false oI) 164 false vr) 165 true oH)
theorem OF:bK Tryz.prog vK:=((((((bK.none.add iu false).add u7 false).add JI false).add u9 false).add Em false).add B5 true)
theorem bh:type_of% (ai @w<|ai @dH<|ai @mF<|ai @Bn<|ai @kb<|ai @oE<|@vK.eq_1):=⟨@w,@dH,@mF,@Bn,@kb,@oE,@vK.eq_1⟩
theorem SP (p0:(List Int)) (p1:(List Int)) (r:(List Int)×(List Int)) (hh:sc p0 p1=some r):aM .clean tab vK FU Tryz.f125 none [.sl false false p0.length (ab (eI .i64) p0),.sl false false p1.length (ab (eI .i64) p1)]=some (.clean (.tup [.sl false false r.1.length (ab (eI .i64) r.1),.sl false false r.2.length (ab (eI .i64) r.2)]),none):=by
 refine aq rfl Tryz.ntmps125 Tryz.results125 ?_
 unfold sc at hh
 obtain⟨r1,hr1,hh⟩:=ae hh
 try simp only[bh,seval,-Int.reduceToNat,hr1]
 refine sp aj hh (fun _ hh =>?_) (fun _ hh =>?_)
 ·obtain⟨r3,hr3,hh⟩:=ae hh
  cases hh
  try simp only[bh,seval,-Int.reduceToNat,hr1,hr3]
 ·try simp only[bh,seval,-Int.reduceToNat,hr1]
  refine sp aj hh (fun _ hh =>?_) (fun _ hh =>?_)
  ·obtain⟨x5,hx5,hh⟩:=ae hh
   have ax5:=bF (eI .i64) hx5
   simp only[b6]at ax5
   obtain⟨r6,hr6,hh⟩:=ae hh
   have i7:=kb ([r6.2])
   simp only[aZ,b6,List.length_cons,List.length_nil,Nat.zero_add,Nat.reduceAdd,List.length_set]at i7
   obtain⟨r8,hr8,hh⟩:=ae hh
   cases hh
   try simp only[bh,seval,-Int.reduceToNat,hr1,ax5,hr6,i7,hr8]
  ·try simp only[bh,seval,-Int.reduceToNat,hr1]
   obtain⟨o11,ho11,hh⟩:=ae hh
   refine ax (fun s t H e=>match s with|s8a=>t 0=.sl false false p0.length (ab (eI .i64) p0)∧t 1=.sl false false p1.length (ab (eI .i64) p1)∧t 8=.int .i64 s8a) (fun o x t H e=>match o with|s8ax=>x=.exit 0∧t 0=.sl false false p0.length (ab (eI .i64) p0)∧t 1=.sl false false p1.length (ab (eI .i64) p1)∧t 8=.int .i64 s8ax) ho11 ?_ ?_ ?_
   ·refine⟨?_,?_,?_⟩
    all_goals first|rfl|(simp only[bh,seval,-Int.reduceToNat,hr1]<;>rfl)
   ·rintro s8a t H e Za c hh
    simp only[sd]at hh
    obtain⟨x12,hx12,hh⟩:=ae hh
    have ax12:=bF (eI .i64) hx12
    simp only[b6]at ax12
    try simp only[bh,seval,-Int.reduceToNat,hr1,Za,ax12]
    refine sp aj hh (fun _ hh =>?_) (fun _ hh =>?_)
    ·cases hh
     try simp only[bh,seval,-Int.reduceToNat,hr1,Za,ax12]
     refine gA ?_
     refine⟨?_,?_,?_⟩
     all_goals first|rfl|(simp only[bh,seval,-Int.reduceToNat,hr1,Za,ax12]<;>rfl)
    ·cases hh
     try simp only[bh,seval,-Int.reduceToNat,hr1,Za,ax12]
     refine iS ?_
     refine⟨rfl,⟨?_,?_,?_⟩⟩
     all_goals first|rfl|(simp only[bh,seval,-Int.reduceToNat,hr1,Za,ax12]<;>rfl)
   ·rintro x t H e hx
    obtain⟨s8ax,rfl⟩:∃z,z=o11:=⟨_,rfl⟩
    dsimp only at hx hh
    obtain⟨rfl,Zax⟩:=hx
    have i14:=oE p0 ([s8ax])
    simp only[aZ,b6,List.length_cons,List.length_nil,Nat.zero_add,Nat.reduceAdd,List.length_set]at i14
    obtain⟨r15,hr15,hh⟩:=ae hh
    obtain⟨x16,hx16,hh⟩:=ae hh
    obtain⟨q17a,q17b,q17c,q17d⟩:=fa (eI .i64) hx16
    simp only[b6]at q17b
    have i18:=oE p1 ([s8ax])
    simp only[aZ,b6,List.length_cons,List.length_nil,Nat.zero_add,Nat.reduceAdd,List.length_set]at i18
    obtain⟨r19,hr19,hh⟩:=ae hh
    try simp only[bh,seval,-Int.reduceToNat,hr1,Zax,i14,hr15,q17a,q17b,q17c,q17d,i18,hr19]
    obtain⟨o20,ho20,hh⟩:=ae hh
    refine ns 0 (fun s t H e=>match s with|l9j2=>∃v9j2:Nat,∃v10j2:Nat,t 8=.int .i64 s8ax∧t 9=.buf 9 v9j2 1 0 (l9j2).length∧t 10=.buf 10 v10j2 1 0 (r19).length∧H 9=some ⟨v9j2,3,ab (eI .i64) l9j2,false,true,false⟩∧H 10=some ⟨v10j2,3,ab (eI .i64) r19,false,true,false⟩) (fun s=>s=o20) ?_ ?_
    ·rintro l9j2 t H e ⟨v9j2,v10j2,Zj2⟩ rfl
     try dsimp only at hh
     obtain⟨x21,hx21,hh⟩:=ae hh
     obtain⟨q22a,q22b,q22c,q22d,q22e⟩:=mk_one (eI .i64) hx21
     simp only[b6]at q22d
     try simp only[bh,seval,-Int.reduceToNat,hr1,i14,hr15,q17a,q17b,q17c,q17d,i18,hr19,Zj2,q22a,q22b,q22c,q22d,q22e]
     obtain⟨o58,ho58,hh⟩:=ae hh
     refine ax (fun s t H e=>match s with|(s13c,l9c,l12c)=>∃v9c:Nat,∃v10c:Nat,∃v12c:Nat,∃z10c:Bool,t 8=.int .i64 s8ax∧t 9=.buf 9 v9c 1 0 (l9c).length∧t 10=.buf 10 v10c 1 0 (r19).length∧t 11=.int .i64 ((r19).length:Int)∧t 12=.buf 12 v12c 1 0 (l12c).length∧t 13=.int .i64 s13c∧H 9=some ⟨v9c,3,ab (eI .i64) l9c,false,true,false⟩∧H 10=some ⟨v10c,3,ab (eI .i64) r19,z10c,true,false⟩∧H 12=some ⟨v12c,3,ab (eI .i64) l12c,false,true,false⟩) (fun o x t H e=>match o with|(l9cx,l12cx)=>x=.exit 2∧∃v9cx:Nat,∃v12cx:Nat,t 8=.int .i64 s8ax∧t 9=.buf 9 v9cx 1 0 (l9cx).length∧t 12=.buf 12 v12cx 1 0 (l12cx).length∧H 9=some ⟨v9cx,3,ab (eI .i64) l9cx,false,true,false⟩∧H 12=some ⟨v12cx,3,ab (eI .i64) l12cx,false,true,false⟩) ho58 ?_ ?_ ?_
     ·refine⟨v9j2,v10j2,e+1,false,?_,?_,?_,?_,?_,?_,?_,?_,?_⟩
      all_goals first|rfl|(simp only[bh,seval,-Int.reduceToNat,hr1,i14,hr15,q17a,q17b,q17c,q17d,i18,hr19,Zj2,q22a,q22b,q22c,q22d,q22e]<;>rfl)
     ·rintro⟨s13c,l9c,l12c⟩ t H e ⟨v9c,v10c,v12c,z10c,Zc⟩ c hh
      simp only[se]at hh
      try simp only[bh,seval,-Int.reduceToNat,hr1,i14,hr15,q17a,q17b,q17c,q17d,i18,hr19,q22a,q22b,q22c,q22d,q22e,Zc]
      refine sp aj hh (fun _ hh =>?_) (fun _ hh =>?_)
      ·obtain⟨x60,hx60,hh⟩:=ae hh
       have ax60:=bF (eI .i64) hx60
       simp only[b6]at ax60
       obtain⟨x61,hx61,hh⟩:=ae hh
       have q62:=Cq hx61
       obtain⟨x63,hx63,hh⟩:=ae hh
       have ax63:=bF (eI .i64) hx63
       simp only[b6]at ax63
       try simp only[bh,seval,-Int.reduceToNat,hr1,i14,hr15,q17a,q17b,q17c,q17d,i18,hr19,q22a,q22b,q22c,q22d,q22e,Zc,ax60,q62,ax63]
       refine cf (by kernel_rfl) ?_
       obtain⟨x64,hx64,hh⟩:=ae hh
       have ax64:=bF (eI .i64) hx64
       simp only[b6]at ax64
       obtain⟨x65,hx65,hh⟩:=ae hh
       have q66:=sj hx65
       have ax64:=bF (eI .i64) hx64
       simp only[b6]at ax64
       obtain⟨x67,hx67,hh⟩:=ae hh
       have q68:=qo hx67
       try simp only[bh,seval,-Int.reduceToNat,hr1,i14,hr15,q17a,q17b,q17c,q17d,i18,hr19,q22a,q22b,q22c,q22d,q22e,Zc,ax60,q62,ax63,ax64,q66,ax64,q68]
       refine cf (by kernel_rfl) ?_
       try simp only[bh,seval,-Int.reduceToNat,hr1,i14,hr15,q17a,q17b,q17c,q17d,i18,hr19,q22a,q22b,q22c,q22d,q22e,Zc,ax60,q62,ax63,ax64,q66,ax64,q68]
       obtain⟨o78,ho78,hh⟩:=ae hh
       refine ax (fun s t H e=>match s with|(s15g,s16g)=>∃v9g:Nat,∃v10g:Nat,∃v12g:Nat,∃z10g:Bool,t 8=.int .i64 s8ax∧t 9=.buf 9 v9g 1 0 (l9c).length∧t 10=.buf 10 v10g 1 0 (r19).length∧t 11=.int .i64 ((r19).length:Int)∧t 12=.buf 12 v12g 1 0 (l12c).length∧t 13=.int .i64 s13c∧t 15=.int .i64 s15g∧t 16=.int .i64 s16g∧H 9=some ⟨v9g,3,ab (eI .i64) l9c,false,true,false⟩∧H 10=some ⟨v10g,3,ab (eI .i64) r19,z10g,true,false⟩∧H 12=some ⟨v12g,3,ab (eI .i64) l12c,false,true,false⟩) (fun o x t H e=>match o with|s15gx=>x=.exit 4∧∃v9gx:Nat,∃v10gx:Nat,∃v12gx:Nat,∃z10gx:Bool,t 8=.int .i64 s8ax∧t 9=.buf 9 v9gx 1 0 (l9c).length∧t 10=.buf 10 v10gx 1 0 (r19).length∧t 11=.int .i64 ((r19).length:Int)∧t 12=.buf 12 v12gx 1 0 (l12c).length∧t 13=.int .i64 s13c∧t 15=.int .i64 s15gx∧H 9=some ⟨v9gx,3,ab (eI .i64) l9c,false,true,false⟩∧H 10=some ⟨v10gx,3,ab (eI .i64) r19,z10gx,true,false⟩∧H 12=some ⟨v12gx,3,ab (eI .i64) l12c,false,true,false⟩) ho78 ?_ ?_ ?_
       ·refine⟨v9c,v10c,v12c,z10c,?_,?_,?_,?_,?_,?_,?_,?_,?_,?_,?_⟩
        all_goals first|rfl|(simp only[bh,seval,-Int.reduceToNat,hr1,i14,hr15,q17a,q17b,q17c,q17d,i18,hr19,q22a,q22b,q22c,q22d,q22e,Zc,ax60,q62,ax63,ax64,q66,ax64,q68]<;>rfl)
       ·rintro⟨s15g,s16g⟩ t H e ⟨v9g,v10g,v12g,z10g,Zg⟩ c hh
        simp only[sf]at hh
        try simp only[bh,seval,-Int.reduceToNat,hr1,i14,hr15,q17a,q17b,q17c,q17d,i18,hr19,q22a,q22b,q22c,q22d,q22e,ax60,q62,ax63,ax64,q66,ax64,q68,Zg]
        obtain⟨o79,ho79,hh⟩:=ae hh
        refine NW 0 (fun s t H e=>match s with|s137j9=>∃v9j9:Nat,∃v10j9:Nat,∃v12j9:Nat,∃z10j9:Bool,t 8=.int .i64 s8ax∧t 9=.buf 9 v9j9 1 0 (l9c).length∧t 10=.buf 10 v10j9 1 0 (r19).length∧t 11=.int .i64 ((r19).length:Int)∧t 12=.buf 12 v12j9 1 0 (l12c).length∧t 13=.int .i64 s13c∧t 15=.int .i64 s15g∧t 16=.int .i64 s16g∧t 137=.bool s137j9∧H 9=some ⟨v9j9,3,ab (eI .i64) l9c,false,true,false⟩∧H 10=some ⟨v10j9,3,ab (eI .i64) r19,z10j9,true,false⟩∧H 12=some ⟨v12j9,3,ab (eI .i64) l12c,false,true,false⟩) (fun s=>s=o79) ?_ ?_
        ·rintro s137j9 t H e ⟨v9j9,v10j9,v12j9,z10j9,Zj9⟩ rfl
         try dsimp only at hh
         try simp only[bh,seval,-Int.reduceToNat,hr1,i14,hr15,q17a,q17b,q17c,q17d,i18,hr19,q22a,q22b,q22c,q22d,q22e,ax60,q62,ax63,ax64,q66,ax64,q68,Zj9]
         refine sp aj hh (fun _ hh =>?_) (fun _ hh =>?_)
         ·have ax64:=bF (eI .i64) hx64
          simp only[b6]at ax64
          cases hh
          try simp only[bh,seval,-Int.reduceToNat,hr1,i14,hr15,q17a,q17b,q17c,q17d,i18,hr19,q22a,q22b,q22c,q22d,q22e,ax60,q62,ax63,ax64,q66,ax64,q68,Zj9,ax64]
          refine gA ?_
          refine⟨v9j9,v10j9,v12j9,z10j9,?_,?_,?_,?_,?_,?_,?_,?_,?_,?_,?_⟩
          all_goals first|rfl|(simp only[bh,seval,-Int.reduceToNat,hr1,i14,hr15,q17a,q17b,q17c,q17d,i18,hr19,q22a,q22b,q22c,q22d,q22e,ax60,q62,ax63,ax64,q66,ax64,q68,Zj9,ax64]<;>rfl)
         ·cases hh
          try simp only[bh,seval,-Int.reduceToNat,hr1,i14,hr15,q17a,q17b,q17c,q17d,i18,hr19,q22a,q22b,q22c,q22d,q22e,ax60,q62,ax63,ax64,q66,ax64,q68,Zj9]
          refine iS ?_
          refine⟨rfl,⟨v9j9,v10j9,v12j9,z10j9,?_,?_,?_,?_,?_,?_,?_,?_,?_,?_⟩⟩
          all_goals first|rfl|(simp only[bh,seval,-Int.reduceToNat,hr1,i14,hr15,q17a,q17b,q17c,q17d,i18,hr19,q22a,q22b,q22c,q22d,q22e,ax60,q62,ax63,ax64,q66,ax64,q68,Zj9]<;>rfl)
        ·clear hh
         have hh:=ho79
         try simp only[bh,seval,-Int.reduceToNat,hr1,i14,hr15,q17a,q17b,q17c,q17d,i18,hr19,q22a,q22b,q22c,q22d,q22e,ax60,q62,ax63,ax64,q66,ax64,q68,Zg]
         refine sp Wu hh (fun _ hh =>?_) (fun _ hh =>?_)
         ·try simp only[bh,seval,-Int.reduceToNat,hr1,i14,hr15,q17a,q17b,q17c,q17d,i18,hr19,q22a,q22b,q22c,q22d,q22e,ax60,q62,ax63,ax64,q66,ax64,q68,Zg]
          refine cf (by kernel_rfl) ?_
          cases hh
          try simp only[bh,seval,-Int.reduceToNat,hr1,i14,hr15,q17a,q17b,q17c,q17d,i18,hr19,q22a,q22b,q22c,q22d,q22e,ax60,q62,ax63,ax64,q66,ax64,q68,Zg]
          rw[ak]
          refine⟨_,rfl,?_⟩
          refine⟨v9g,v10g,v12g,z10g,?_,?_,?_,?_,?_,?_,?_,?_,?_,?_,?_,?_⟩
          all_goals first|rfl|(simp only[bh,seval,-Int.reduceToNat,hr1,i14,hr15,q17a,q17b,q17c,q17d,i18,hr19,q22a,q22b,q22c,q22d,q22e,ax60,q62,ax63,ax64,q66,ax64,q68,Zg]<;>rfl)
         ·try simp only[bh,seval,-Int.reduceToNat,hr1,i14,hr15,q17a,q17b,q17c,q17d,i18,hr19,q22a,q22b,q22c,q22d,q22e,ax60,q62,ax63,ax64,q66,ax64,q68,Zg]
          refine sp tw hh (fun _ hh =>?_) (fun _ hh =>?_)
          ·obtain⟨x83,hx83,hh⟩:=ae hh
           have ax83:=bF (eI .i64) hx83
           simp only[b6]at ax83
           obtain⟨x84,hx84,hh⟩:=ae hh
           have q85:=Cq hx84
           obtain⟨x86,hx86,hh⟩:=ae hh
           have ax86:=bF (eI .i64) hx86
           simp only[b6]at ax86
           try simp only[bh,seval,-Int.reduceToNat,hr1,i14,hr15,q17a,q17b,q17c,q17d,i18,hr19,q22a,q22b,q22c,q22d,q22e,ax60,q62,ax63,ax64,q66,ax64,q68,Zg,ax83,q85,ax86]
           refine cf (by kernel_rfl) ?_
           cases hh
           try simp only[bh,seval,-Int.reduceToNat,hr1,i14,hr15,q17a,q17b,q17c,q17d,i18,hr19,q22a,q22b,q22c,q22d,q22e,ax60,q62,ax63,ax64,q66,ax64,q68,Zg,ax83,q85,ax86]
           rw[ak]
           refine⟨_,rfl,?_⟩
           refine⟨v9g,v10g,v12g,z10g,?_,?_,?_,?_,?_,?_,?_,?_,?_,?_,?_,?_⟩
           all_goals first|rfl|(simp only[bh,seval,-Int.reduceToNat,hr1,i14,hr15,q17a,q17b,q17c,q17d,i18,hr19,q22a,q22b,q22c,q22d,q22e,ax60,q62,ax63,ax64,q66,ax64,q68,Zg,ax83,q85,ax86]<;>rfl)
          ·try simp only[bh,seval,-Int.reduceToNat,hr1,i14,hr15,q17a,q17b,q17c,q17d,i18,hr19,q22a,q22b,q22c,q22d,q22e,ax60,q62,ax63,ax64,q66,ax64,q68,Zg]
           refine cf (by kernel_rfl) ?_
           cases hh
           try simp only[bh,seval,-Int.reduceToNat,hr1,i14,hr15,q17a,q17b,q17c,q17d,i18,hr19,q22a,q22b,q22c,q22d,q22e,ax60,q62,ax63,ax64,q66,ax64,q68,Zg]
           rw[ak]
           refine⟨_,rfl,?_⟩
           refine⟨v9g,v10g,v12g,z10g,?_,?_,?_,?_,?_,?_,?_,?_,?_,?_,?_,?_⟩
           all_goals first|rfl|(simp only[bh,seval,-Int.reduceToNat,hr1,i14,hr15,q17a,q17b,q17c,q17d,i18,hr19,q22a,q22b,q22c,q22d,q22e,ax60,q62,ax63,ax64,q66,ax64,q68,Zg]<;>rfl)
       ·rintro x t H e hx
        obtain⟨s15gx,rfl⟩:∃z,z=o78:=⟨_,rfl⟩
        dsimp only at hx hh
        obtain⟨rfl,⟨v9gx,v10gx,v12gx,z10gx,Zgx⟩⟩:=hx
        obtain⟨x87,hx87,hh⟩:=ae hh
        obtain⟨q88a,q88b,q88c,q88d,q88e⟩:=Y8 (eI .i64) hx87
        simp only[b6]at q88e
        have i89:=EA (ab (eI .i64) (l9c.take (s13c).toNat)) (ab (eI .i64) (l9c.drop (IntKind.i64.wrap ((IntKind.i64.wrap (s13c+((r19).length:Int)))+1)).toNat)) x87 r19 s15gx
        simp only[XI,XJ (eI .i64) hx87,XK (eI .i64) hx87,Yv hx87,b6,Int.toNat_zero,Nat.zero_mul,Nat.sub_zero]at i89
        obtain⟨r90,hr90,hh⟩:=ae hh
        have q91l:=Al hr90
        have q91m:=Wy hx87 q91l
        obtain⟨x92,hx92,hh⟩:=ae hh
        have ax92:=bF (eI .i64) hx92
        simp only[b6]at ax92
        have p93:=qt (eI .i64) (x':=r90.2) (fo:=0) (cs:=[.int .i64 r90.2]) hx92 rfl (Nat.le_of_ble_eq_true rfl)
        simp only[b6,Nat.add_zero]at p93
        have up93:=p93
        simp only[putCells,List.length_cons,List.length_nil,Nat.zero_add,Nat.reduceAdd]at up93
        cases hh
        try simp only[bh,seval,-Int.reduceToNat,hr1,i14,hr15,q17a,q17b,q17c,q17d,i18,hr19,q22a,q22b,q22c,q22d,q22e,ax60,q62,ax63,ax64,q66,ax64,q68,Zgx,q88a,q88b,q88c,q88e,i89,hr90,q91m,ax92,p93,up93]
        refine gA ?_
        refine⟨v9gx,v10gx,v12gx,true,?_,?_,?_,?_,?_,?_,?_,?_,?_⟩
        all_goals first|rfl|(simp only[bh,seval,-Int.reduceToNat,hr1,i14,hr15,q17a,q17b,q17c,q17d,i18,hr19,q22a,q22b,q22c,q22d,q22e,ax60,q62,ax63,ax64,q66,ax64,q68,Zgx,q88a,q88b,q88c,q88e,i89,hr90,q91m,ax92,p93,up93]<;>rfl)
      ·cases hh
       try simp only[bh,seval,-Int.reduceToNat,hr1,i14,hr15,q17a,q17b,q17c,q17d,i18,hr19,q22a,q22b,q22c,q22d,q22e,Zc]
       refine iS ?_
       refine⟨rfl,⟨v9c,v12c,?_,?_,?_,?_,?_⟩⟩
       all_goals first|rfl|(simp only[bh,seval,-Int.reduceToNat,hr1,i14,hr15,q17a,q17b,q17c,q17d,i18,hr19,q22a,q22b,q22c,q22d,q22e,Zc]<;>rfl)
     ·rintro x t H e hx
      rcases o58 with⟨l9cx,l12cx⟩
      dsimp only at hx hh
      obtain⟨rfl,⟨v9cx,v12cx,Zcx⟩⟩:=hx
      obtain⟨r94,hr94,hh⟩:=ae hh
      obtain⟨r95,hr95,hh⟩:=ae hh
      obtain⟨r96,hr96,hh⟩:=ae hh
      cases hh
      try simp only[bh,seval,-Int.reduceToNat,hr1,i14,hr15,q17a,q17b,q17c,q17d,i18,hr19,q22a,q22b,q22c,q22d,q22e,Zcx,hr94,hr95,hr96]
    ·clear hh
     have hh:=ho20
     try simp only[bh,seval,-Int.reduceToNat,hr1,Zax,i14,hr15,q17a,q17b,q17c,q17d,i18,hr19]
     refine sp aj hh (fun _ hh =>?_) (fun _ hh =>?_)
     ·obtain⟨x98,hx98,hh⟩:=ae hh
      obtain⟨q99a,q99b,q99c,q99d⟩:=fa (eI .i64) hx98
      simp only[b6]at q99b
      cases hh
      try simp only[bh,seval,-Int.reduceToNat,hr1,Zax,i14,hr15,q17a,q17b,q17c,q17d,i18,hr19,q99a,q99b,q99c,q99d]
      rw[ak]
      refine⟨_,rfl,?_⟩
      refine⟨e+1+1,e,?_,?_,?_,?_,?_⟩
      all_goals first|rfl|(simp only[bh,seval,-Int.reduceToNat,hr1,Zax,i14,hr15,q17a,q17b,q17c,q17d,i18,hr19,q99a,q99b,q99c,q99d]<;>rfl)
     ·cases hh
      try simp only[bh,seval,-Int.reduceToNat,hr1,Zax,i14,hr15,q17a,q17b,q17c,q17d,i18,hr19]
      rw[ak]
      refine⟨_,rfl,?_⟩
      refine⟨e,e,?_,?_,?_,?_,?_⟩
      all_goals first|rfl|(simp only[bh,seval,-Int.reduceToNat,hr1,Zax,i14,hr15,q17a,q17b,q17c,q17d,i18,hr19]<;>rfl)
theorem Pp:bE Tryz.prog 125 zG:=bE.of (mode := .clean) tok OF mixed Tryz.func125 (by kernel_rfl) ⟨by kernel_rfl,by kernel_rfl⟩ (fun _=>Nat.le_of_ble_eq_true (by kernel_rfl)) (fun x r h=>SP x.1 x.2 r h)
noncomputable def kS:=dI (cH (aI .i64) (dn (eZ (eI .i64)))) (fun x:Int×(List Int)=>fK x.1 x.2) (fun r:aw =>.clean (.agg [.int .i64 r.ah,.sl false false r.aa.length (ab (eI .i64) r.aa)]))
theorem jt (p0:Int) (p1:(List Int)):kS none [.int .i64 p0,.sl false false p1.length (ab (eI .i64) p1)]=(fK p0 p1).map fun r:aw=>(.clean (.agg [.int .i64 r.ah,.sl false false r.aa.length (ab (eI .i64) r.aa)]),none):=aC _ _ _ (p0,p1)
noncomputable def nS:Env:=(Am.ext aU 163 false oI)
theorem Fv:bK Tryz.prog nS:=(bK.none.add u9 false)
theorem tz:type_of% (ai @w<|ai @kb<|@nS.eq_1):=⟨@w,@kb,@nS.eq_1⟩
theorem Jm (p0:Int) (p1:(List Int)) (r:aw) (hh:fK p0 p1=some r):aM .clean tab nS FU Tryz.f126 none [.int .i64 p0,.sl false false p1.length (ab (eI .i64) p1)]=some (.clean (.agg [.int .i64 r.ah,.sl false false r.aa.length (ab (eI .i64) r.aa)]),none):=by
 refine aq rfl Tryz.ntmps126 Tryz.results126 ?_
 unfold fK at hh
 obtain⟨r1,hr1,hh⟩:=ae hh
 try simp only[tz,seval,-Int.reduceToNat,hr1]
 refine sp aj hh (fun _ hh =>?_) (fun _ hh =>?_)
 ·cases hh
  try simp only[tz,seval,-Int.reduceToNat,hr1]
 ·cases hh
  try simp only[tz,seval,-Int.reduceToNat,hr1]
theorem qV:bE Tryz.prog 126 kS:=bE.of (mode := .clean) tok Fv mixed Tryz.func126 (by kernel_rfl) ⟨by kernel_rfl,by kernel_rfl⟩ (fun _=>Nat.le_of_ble_eq_true (by kernel_rfl)) (fun x r h=>Jm x.1 x.2 r h)
noncomputable def zD:=dI (cH (cI fM) (dn (cI fM))) (fun x:aw×aw=>rY x.1 x.2) (fun r:aw×Int =>.clean (.tup [.agg [.int .i64 r.1.ah,.sl false false r.1.aa.length (ab (eI .i64) r.1.aa)],.int .i64 r.2]))
theorem HR (p0_0:Int) (p0_1:(List Int)) (p1_0:Int) (p1_1:(List Int)):zD none [.agg [.int .i64 p0_0,.sl false false p0_1.length (ab (eI .i64) p0_1)],.agg [.int .i64 p1_0,.sl false false p1_1.length (ab (eI .i64) p1_1)]]=(rY (aw.mk p0_0 p0_1) (aw.mk p1_0 p1_1)).map fun r:aw×Int=>(.clean (.tup [.agg [.int .i64 r.1.ah,.sl false false r.1.aa.length (ab (eI .i64) r.1.aa)],.int .i64 r.2]),none):=aC _ _ _ ((aw.mk p0_0 p0_1),(aw.mk p1_0 p1_1))
noncomputable def vH:Env:=(Am.keep 6 (Am.ext (Am.ext (Am.ext (Am.ext (Am.ext aU 65 false e9) 97 false ja) 124 false mh) 125 false zG) 126 false kS))
theorem OC:bK Tryz.prog vH:=(bK.keep (((((bK.none.add iu false).add lr false).add u6 false).add Pp false).add qV false) 6)
theorem dZ:type_of% (ai @w<|ai @dH<|ai @fC<|ai @iL<|ai @HU<|ai @jt<|@vH.eq_1):=⟨@w,@dH,@fC,@iL,@HU,@jt,@vH.eq_1⟩
theorem SM (p0:aw) (p1:aw) (r:aw×Int) (hh:rY p0 p1=some r):aM .clean tab vH FU Tryz.f98 none [.agg [.int .i64 p0.ah,.sl false false p0.aa.length (ab (eI .i64) p0.aa)],.agg [.int .i64 p1.ah,.sl false false p1.aa.length (ab (eI .i64) p1.aa)]]=some (.clean (.tup [.agg [.int .i64 r.1.ah,.sl false false r.1.aa.length (ab (eI .i64) r.1.aa)],.int .i64 r.2]),none):=by
 refine aq rfl Tryz.ntmps98 Tryz.results98 ?_
 unfold rY at hh
 obtain⟨r1,hr1,hh⟩:=ae hh
 try simp only[dZ,seval,-Int.reduceToNat,hr1]
 obtain⟨o2,ho2,hh⟩:=ae hh
 refine bA 0 (fun s t H e=>match s with|s17j1=>∃v2j1:Nat,∃v3j1:Nat,∃v4j1:Nat,t 2=.ptr 2 v2j1 0∧t 3=.ptr 3 v3j1 0∧t 4=.ptr 4 v4j1 0∧t 17=.bool s17j1∧H 2=some ⟨v2j1,49,[.int .i64 p0.ah,.sl false false p0.aa.length (ab (eI .i64) p0.aa)],false,false,false⟩∧H 3=some ⟨v3j1,49,[.int .i64 p1.ah,.sl false false p1.aa.length (ab (eI .i64) p1.aa)],false,false,false⟩∧H 4=some ⟨v4j1,49,[.int .i64 0,.sl true true 0 []],false,false,false⟩) (fun s=>s=o2) ?_ ?_
 ·rintro s17j1 t H e ⟨v2j1,v3j1,v4j1,Zj1⟩ rfl
  try dsimp only at hh
  try simp only[dZ,seval,-Int.reduceToNat,hr1,Zj1]
  refine sp aj hh (fun _ hh =>?_) (fun _ hh =>?_)
  ·have i4:=iL false 0 ([])
   simp only[aZ,b6,List.length_cons,List.length_nil,Nat.zero_add,Nat.reduceAdd,List.length_set]at i4
   obtain⟨r5,hr5,hh⟩:=ae hh
   cases hh
   try simp only[dZ,seval,-Int.reduceToNat,hr1,Zj1,i4,hr5]
  ·obtain⟨r6,hr6,hh⟩:=ae hh
   try simp only[dZ,seval,-Int.reduceToNat,hr1,Zj1,hr6]
   refine cf (by kernel_rfl) ?_
   try simp only[dZ,seval,-Int.reduceToNat,hr1,Zj1,hr6]
   obtain⟨o9,ho9,hh⟩:=ae hh
   refine ax (fun s t H e=>match s with|(s6b,s7b)=>∃v4b:Nat,t 4=.ptr 4 v4b 0∧t 6=.sl false false s6b.length (ab (eI .i64) s6b)∧t 7=.sl false false s7b.length (ab (eI .i64) s7b)∧H 4=some ⟨v4b,49,[.int .i64 0,.sl true true 0 []],false,false,false⟩) (fun o x t H e=>match o with|s6bx=>x=.exit 0∧∃v4bx:Nat,t 4=.ptr 4 v4bx 0∧t 6=.sl false false s6bx.length (ab (eI .i64) s6bx)∧H 4=some ⟨v4bx,49,[.int .i64 0,.sl true true 0 []],false,false,false⟩) ho9 ?_ ?_ ?_
   ·refine⟨v4j1,?_,?_,?_,?_⟩
    all_goals first|rfl|(simp only[dZ,seval,-Int.reduceToNat,hr1,Zj1,hr6]<;>rfl)
   ·rintro⟨s6b,s7b⟩ t H e ⟨v4b,Zb⟩ c hh
    simp only[oL]at hh
    try simp only[dZ,seval,-Int.reduceToNat,hr1,hr6,Zb]
    refine sp aj hh (fun _ hh =>?_) (fun _ hh =>?_)
    ·obtain⟨r11,hr11,hh⟩:=ae hh
     cases hh
     try simp only[dZ,seval,-Int.reduceToNat,hr1,hr6,Zb,hr11]
     refine gA ?_
     refine⟨v4b,?_,?_,?_,?_⟩
     all_goals first|rfl|(simp only[dZ,seval,-Int.reduceToNat,hr1,hr6,Zb,hr11]<;>rfl)
    ·cases hh
     try simp only[dZ,seval,-Int.reduceToNat,hr1,hr6,Zb]
     refine iS ?_
     refine⟨rfl,⟨v4b,?_,?_,?_⟩⟩
     all_goals first|rfl|(simp only[dZ,seval,-Int.reduceToNat,hr1,hr6,Zb]<;>rfl)
   ·rintro x t H e hx
    obtain⟨s6bx,rfl⟩:∃z,z=o9:=⟨_,rfl⟩
    dsimp only at hx hh
    obtain⟨rfl,⟨v4bx,Zbx⟩⟩:=hx
    obtain⟨r12,hr12,hh⟩:=ae hh
    obtain⟨r13,hr13,hh⟩:=ae hh
    obtain⟨r14,hr14,hh⟩:=ae hh
    cases hh
    try simp only[dZ,seval,-Int.reduceToNat,hr1,hr6,Zbx,hr12,hr13,hr14]
 ·clear hh
  have hh:=ho2
  try simp only[dZ,seval,-Int.reduceToNat,hr1]
  refine sp aB hh (fun _ hh =>?_) (fun _ hh =>?_)
  ·cases hh
   try simp only[dZ,seval,-Int.reduceToNat,hr1]
   rw[ak]
   refine⟨_,rfl,?_⟩
   refine⟨0,0,0,?_,?_,?_,?_,?_,?_,?_⟩
   all_goals first|rfl|(simp only[dZ,seval,-Int.reduceToNat,hr1]<;>rfl)
  ·obtain⟨r16,hr16,hh⟩:=ae hh
   cases hh
   try simp only[dZ,seval,-Int.reduceToNat,hr1,hr16]
   rw[ak]
   refine⟨_,rfl,?_⟩
   refine⟨0,0,0,?_,?_,?_,?_,?_,?_,?_⟩
   all_goals first|rfl|(simp only[dZ,seval,-Int.reduceToNat,hr1,hr16]<;>rfl)
theorem Pm:bE Tryz.prog 98 zD:=bE.of (mode := .clean) tok OC mixed Tryz.func98 (by kernel_rfl) ⟨by kernel_rfl,by kernel_rfl⟩ (fun _=>Nat.le_of_ble_eq_true (by kernel_rfl)) (fun x r h=>SM x.1 x.2 r h)
noncomputable def zE:=dI (dn (cI fM)) (fun x:aw=>rZ x) (fun r:Int×Bool =>.clean (.tup [.int .i64 r.1,.bool r.2]))
theorem HS (p0_0:Int) (p0_1:(List Int)):zE none [.agg [.int .i64 p0_0,.sl false false p0_1.length (ab (eI .i64) p0_1)]]=(rZ (aw.mk p0_0 p0_1)).map fun r:Int×Bool=>(.clean (.tup [.int .i64 r.1,.bool r.2]),none):=aC _ _ _ ((aw.mk p0_0 p0_1))
noncomputable def vI:Env:=(Am.ext aU 97 false ja)
theorem OD:bK Tryz.prog vI:=(bK.none.add lr false)
theorem bG:type_of% (ai @w<|ai @fC<|@vI.eq_1):=⟨@w,@fC,@vI.eq_1⟩
theorem SN (p0:aw) (r:Int×Bool) (hh:rZ p0=some r):aM .clean tab vI FU Tryz.f127 none [.agg [.int .i64 p0.ah,.sl false false p0.aa.length (ab (eI .i64) p0.aa)]]=some (.clean (.tup [.int .i64 r.1,.bool r.2]),none):=by
 refine aq rfl Tryz.ntmps127 Tryz.results127 ?_
 unfold rZ at hh
 obtain⟨r1,hr1,hh⟩:=ae hh
 try simp only[bG,seval,-Int.reduceToNat,hr1]
 obtain⟨o2,ho2,hh⟩:=ae hh
 refine bA 0 (fun s t H e=>match s with|s15j1=>∃v1j1:Nat,t 1=.ptr 1 v1j1 0∧t 15=.bool s15j1∧H 1=some ⟨v1j1,49,[.int .i64 p0.ah,.sl false false p0.aa.length (ab (eI .i64) p0.aa)],false,false,false⟩) (fun s=>s=o2) ?_ ?_
 ·rintro s15j1 t H e ⟨v1j1,Zj1⟩ rfl
  try dsimp only at hh
  try simp only[bG,seval,-Int.reduceToNat,hr1,Zj1]
  refine sp aj hh (fun _ hh =>?_) (fun _ hh =>?_)
  ·cases hh
   try simp only[bG,seval,-Int.reduceToNat,hr1,Zj1]
  ·try simp only[bG,seval,-Int.reduceToNat,hr1,Zj1]
   obtain⟨o11,ho11,hh⟩:=ae hh
   refine ax (fun s t H e=>match s with|(s4b,s19b)=>∃v1b:Nat,t 1=.ptr 1 v1b 0∧t 4=.int .u64 s4b∧t 17=.sl false false p0.aa.length (ab (eI .i64) p0.aa)∧t 18=.int .i64 (p0.aa.length:Int)∧t 19=.int .i64 s19b∧H 1=some ⟨v1b,49,[.int .i64 p0.ah,.sl false false p0.aa.length (ab (eI .i64) p0.aa)],false,false,false⟩) (fun o x t H e=>match o with|(.inl s4bx)=>x=.exit 0∧∃v1bx:Nat,t 1=.ptr 1 v1bx 0∧t 4=.int .u64 s4bx∧H 1=some ⟨v1bx,49,[.int .i64 p0.ah,.sl false false p0.aa.length (ab (eI .i64) p0.aa)],false,false,false⟩|(.inr r)=>x=.ret∧eW .clean tab none [.tmp 2,.tmp 3] ⟨t,H,e⟩=some (.clean (.tup [.int .i64 r.1,.bool r.2]),none)) ho11 ?_ ?_ ?_
   ·refine⟨v1j1,?_,?_,?_,?_,?_,?_⟩
    all_goals first|rfl|(simp only[bG,seval,-Int.reduceToNat,hr1,Zj1]<;>rfl)
   ·rintro⟨s4b,s19b⟩ t H e ⟨v1b,Zb⟩ c hh
    simp only[sa]at hh
    try simp only[bG,seval,-Int.reduceToNat,hr1,Zb]
    refine sp aj hh (fun _ hh =>?_) (fun _ hh =>?_)
    ·obtain⟨x13,hx13,hh⟩:=ae hh
     have ax13:=bF (eI .i64) hx13
     simp only[b6]at ax13
     try simp only[bG,seval,-Int.reduceToNat,hr1,Zb,ax13]
     obtain⟨o14,ho14,hh⟩:=ae hh
     refine bA 0 (fun s t H e=>match s with|s29j4=>∃v1j4:Nat,t 1=.ptr 1 v1j4 0∧t 4=.int .u64 s4b∧t 5=.int .i64 s19b∧t 6=.int .i64 x13∧t 17=.sl false false p0.aa.length (ab (eI .i64) p0.aa)∧t 18=.int .i64 (p0.aa.length:Int)∧t 19=.int .i64 s19b∧t 29=.bool s29j4∧H 1=some ⟨v1j4,49,[.int .i64 p0.ah,.sl false false p0.aa.length (ab (eI .i64) p0.aa)],false,false,false⟩) (fun s=>s=o14) ?_ ?_
     ·rintro s29j4 t H e ⟨v1j4,Zj4⟩ rfl
      try dsimp only at hh
      try simp only[bG,seval,-Int.reduceToNat,hr1,ax13,Zj4]
      refine sp aj hh (fun _ hh =>?_) (fun _ hh =>?_)
      ·cases hh
       try simp only[bG,seval,-Int.reduceToNat,hr1,ax13,Zj4]
       refine pc ⟨rfl,?_⟩
       try simp only[bG,seval,-Int.reduceToNat,hr1,ax13,Zj4]
      ·obtain⟨x16,hx16,hh⟩:=ae hh
       have q17:=Cq hx16
       cases hh
       try simp only[bG,seval,-Int.reduceToNat,hr1,ax13,Zj4,q17]
       refine gA ?_
       refine⟨v1j4,?_,?_,?_,?_,?_,?_⟩
       all_goals first|rfl|(simp only[bG,seval,-Int.reduceToNat,hr1,ax13,Zj4,q17]<;>rfl)
     ·clear hh
      have hh:=ho14
      try simp only[bG,seval,-Int.reduceToNat,hr1,Zb,ax13]
      refine sp bd hh (fun _ hh =>?_) (fun _ hh =>?_)
      ·cases hh
       try simp only[bG,seval,-Int.reduceToNat,hr1,Zb,ax13]
       rw[ak]
       refine⟨_,rfl,?_⟩
       refine⟨v1b,?_,?_,?_,?_,?_,?_,?_,?_,?_⟩
       all_goals first|rfl|(simp only[bG,seval,-Int.reduceToNat,hr1,Zb,ax13]<;>rfl)
      ·cases hh
       try simp only[bG,seval,-Int.reduceToNat,hr1,Zb,ax13]
       rw[ak]
       refine⟨_,rfl,?_⟩
       refine⟨v1b,?_,?_,?_,?_,?_,?_,?_,?_,?_⟩
       all_goals first|rfl|(simp only[bG,seval,-Int.reduceToNat,hr1,Zb,ax13]<;>rfl)
    ·cases hh
     try simp only[bG,seval,-Int.reduceToNat,hr1,Zb]
     refine iS ?_
     refine⟨rfl,⟨v1b,?_,?_,?_⟩⟩
     all_goals first|rfl|(simp only[bG,seval,-Int.reduceToNat,hr1,Zb]<;>rfl)
   ·rintro x t H e hx
    rcases o11 with s4bx|rb
    ·dsimp only at hx hh
     obtain⟨rfl,⟨v1bx,Zbx⟩⟩:=hx
     try simp only[bG,seval,-Int.reduceToNat,hr1,Zbx]
     obtain⟨o19,ho19,hh⟩:=ae hh
     refine bA 0 (fun s t H e=>match s with|s38j5=>∃v1j5:Nat,t 1=.ptr 1 v1j5 0∧t 4=.int .u64 s4bx∧t 38=.bool s38j5∧H 1=some ⟨v1j5,49,[.int .i64 p0.ah,.sl false false p0.aa.length (ab (eI .i64) p0.aa)],false,false,false⟩) (fun s=>s=o19) ?_ ?_
     ·rintro s38j5 t H e ⟨v1j5,Zj5⟩ rfl
      try dsimp only at hh
      try simp only[bG,seval,-Int.reduceToNat,hr1,Zj5]
      refine sp aj hh (fun _ hh =>?_) (fun _ hh =>?_)
      ·cases hh
       try simp only[bG,seval,-Int.reduceToNat,hr1,Zj5]
      ·try simp only[bG,seval,-Int.reduceToNat,hr1,Zj5]
       refine sp bd hh (fun _ hh =>?_) (fun _ hh =>?_)
       ·try simp only[bG,seval,-Int.reduceToNat,hr1,Zj5]
        refine sp aj hh (fun _ hh =>?_) (fun _ hh =>?_)
        ·cases hh
         try simp only[bG,seval,-Int.reduceToNat,hr1,Zj5]
        ·cases hh
         try simp only[bG,seval,-Int.reduceToNat,hr1,Zj5]
       ·cases hh
        try simp only[bG,seval,-Int.reduceToNat,hr1,Zj5]
     ·clear hh
      have hh:=ho19
      try simp only[bG,seval,-Int.reduceToNat,hr1,Zbx]
      refine sp bd hh (fun _ hh =>?_) (fun _ hh =>?_)
      ·cases hh
       try simp only[bG,seval,-Int.reduceToNat,hr1,Zbx]
       rw[ak]
       refine⟨_,rfl,?_⟩
       refine⟨v1bx,?_,?_,?_,?_⟩
       all_goals first|rfl|(simp only[bG,seval,-Int.reduceToNat,hr1,Zbx]<;>rfl)
      ·cases hh
       try simp only[bG,seval,-Int.reduceToNat,hr1,Zbx]
       rw[ak]
       refine⟨_,rfl,?_⟩
       refine⟨v1bx,?_,?_,?_,?_⟩
       all_goals first|rfl|(simp only[bG,seval,-Int.reduceToNat,hr1,Zbx]<;>rfl)
    ·dsimp only at hx hh
     obtain⟨rfl,hE⟩:=hx
     cases hh
     try simp only[aO,aG,aW,bX,bW]
     exact hE
 ·clear hh
  have hh:=ho2
  try simp only[bG,seval,-Int.reduceToNat,hr1]
  refine sp aB hh (fun _ hh =>?_) (fun _ hh =>?_)
  ·cases hh
   try simp only[bG,seval,-Int.reduceToNat,hr1]
   rw[ak]
   refine⟨_,rfl,?_⟩
   refine⟨0,?_,?_,?_⟩
   all_goals first|rfl|(simp only[bG,seval,-Int.reduceToNat,hr1]<;>rfl)
  ·cases hh
   try simp only[bG,seval,-Int.reduceToNat,hr1]
   rw[ak]
   refine⟨_,rfl,?_⟩
   refine⟨0,?_,?_,?_⟩
   all_goals first|rfl|(simp only[bG,seval,-Int.reduceToNat,hr1]<;>rfl)
theorem Pn:bE Tryz.prog 127 zE:=bE.of (mode := .clean) tok OD mixed Tryz.func127 (by kernel_rfl) ⟨by kernel_rfl,by kernel_rfl⟩ (fun _=>Nat.le_of_ble_eq_true (by kernel_rfl)) (fun x r h=>SN x r h)
noncomputable def xo:=dI (dn (cI fM)) (fun x:aw=>o0 x) (fun r:Bool =>.clean (.bool r))
theorem ED (p0_0:Int) (p0_1:(List Int)):xo none [.agg [.int .i64 p0_0,.sl false false p0_1.length (ab (eI .i64) p0_1)]]=(o0 (aw.mk p0_0 p0_1)).map fun r:Bool=>(.clean (.bool r),none):=aC _ _ _ ((aw.mk p0_0 p0_1))
noncomputable def sq:Env:=(Am.ext aU 127 false zE)
theorem Lx:bK Tryz.prog sq:=(bK.none.add Pn false)
theorem xX:type_of% (ai @w<|ai @HS<|@sq.eq_1):=⟨@w,@HS,@sq.eq_1⟩
theorem O0 (p0:aw) (r:Bool) (hh:o0 p0=some r):aM .clean tab sq FU Tryz.f99 none [.agg [.int .i64 p0.ah,.sl false false p0.aa.length (ab (eI .i64) p0.aa)]]=some (.clean (.bool r),none):=by
 refine aq rfl Tryz.ntmps99 Tryz.results99 ?_
 unfold o0 at hh
 obtain⟨r1,hr1,hh⟩:=ae hh
 try simp only[xX,seval,-Int.reduceToNat,hr1]
 refine sp bd hh (fun _ hh =>?_) (fun _ hh =>?_)
 ·cases hh
  try simp only[xX,seval,-Int.reduceToNat,hr1]
 ·cases hh
  try simp only[xX,seval,-Int.reduceToNat,hr1]
theorem M5:bE Tryz.prog 99 xo:=bE.of (mode := .clean) tok Lx mixed Tryz.func99 (by kernel_rfl) ⟨by kernel_rfl,by kernel_rfl⟩ (fun _=>Nat.le_of_ble_eq_true (by kernel_rfl)) (fun x r h=>O0 x r h)
noncomputable def kU:=dI (dn (cI jd)) (fun x:aQ=>fe x) (fun r:Bool =>.clean (.bool r))
theorem ju (p0_0:Int) (p0_1:(List Int)) (p0_2:Int) (p0_3:(List Int)):kU none [.agg [.int .i64 p0_0,.sl false false p0_1.length (ab (eI .i64) p0_1),.int .i64 p0_2,.sl false false p0_3.length (ab (eI .i64) p0_3)]]=(fe (aQ.mk (aw.mk p0_0 p0_1) (aw.mk p0_2 p0_3))).map fun r:Bool=>(.clean (.bool r),none):=aC _ _ _ ((aQ.mk (aw.mk p0_0 p0_1) (aw.mk p0_2 p0_3)))
noncomputable def nT:Env:=(Am.ext (Am.ext (Am.ext aU 97 false ja) 98 false zD) 99 false xo)
theorem Fw:bK Tryz.prog nT:=(((bK.none.add lr false).add Pm false).add M5 false)
theorem dk:type_of% (ai @w<|ai @fC<|ai @HR<|ai @ED<|@nT.eq_1):=⟨@w,@fC,@HR,@ED,@nT.eq_1⟩
theorem Jo (p0:aQ) (r:Bool) (hh:fe p0=some r):aM .clean tab nT FU Tryz.f57 none [.agg [.int .i64 p0.cn.ah,.sl false false p0.cn.aa.length (ab (eI .i64) p0.cn.aa),.int .i64 p0.cl.ah,.sl false false p0.cl.aa.length (ab (eI .i64) p0.cl.aa)]]=some (.clean (.bool r),none):=by
 refine aq rfl Tryz.ntmps57 Tryz.results57 ?_
 unfold fe at hh
 obtain⟨r1,hr1,hh⟩:=ae hh
 try simp only[dk,seval,-Int.reduceToNat,hr1]
 obtain⟨o2,ho2,hh⟩:=ae hh
 refine bA 0 (fun s t H e=>match s with|s20j1=>∃v1j1:Nat,t 1=.ptr 1 v1j1 0∧t 20=.bool s20j1∧H 1=some ⟨v1j1,51,[.int .i64 p0.cn.ah,.sl false false p0.cn.aa.length (ab (eI .i64) p0.cn.aa),.int .i64 p0.cl.ah,.sl false false p0.cl.aa.length (ab (eI .i64) p0.cl.aa)],false,false,false⟩) (fun s=>s=o2) ?_ ?_
 ·rintro s20j1 t H e ⟨v1j1,Zj1⟩ rfl
  try dsimp only at hh
  try simp only[dk,seval,-Int.reduceToNat,hr1,Zj1]
  refine sp aj hh (fun _ hh =>?_) (fun _ hh =>?_)
  ·cases hh
   try simp only[dk,seval,-Int.reduceToNat,hr1,Zj1]
  ·obtain⟨r4,hr4,hh⟩:=ae hh
   try simp only[dk,seval,-Int.reduceToNat,hr1,Zj1,hr4]
   refine sp bd hh (fun _ hh =>?_) (fun _ hh =>?_)
   ·obtain⟨r6,hr6,hh⟩:=ae hh
    cases hh
    try simp only[dk,seval,-Int.reduceToNat,hr1,Zj1,hr4,hr6]
   ·cases hh
    try simp only[dk,seval,-Int.reduceToNat,hr1,Zj1,hr4]
 ·clear hh
  have hh:=ho2
  try simp only[dk,seval,-Int.reduceToNat,hr1]
  refine sp aB hh (fun _ hh =>?_) (fun _ hh =>?_)
  ·cases hh
   try simp only[dk,seval,-Int.reduceToNat,hr1]
   rw[ak]
   refine⟨_,rfl,?_⟩
   refine⟨0,?_,?_,?_⟩
   all_goals first|rfl|(simp only[dk,seval,-Int.reduceToNat,hr1]<;>rfl)
  ·obtain⟨r8,hr8,hh⟩:=ae hh
   try simp only[dk,seval,-Int.reduceToNat,hr1,hr8]
   refine sp aB hh (fun _ hh =>?_) (fun _ hh =>?_)
   ·cases hh
    try simp only[dk,seval,-Int.reduceToNat,hr1,hr8]
    rw[ak]
    refine⟨_,rfl,?_⟩
    refine⟨0,?_,?_,?_⟩
    all_goals first|rfl|(simp only[dk,seval,-Int.reduceToNat,hr1,hr8]<;>rfl)
   ·cases hh
    try simp only[dk,seval,-Int.reduceToNat,hr1,hr8]
    rw[ak]
    refine⟨_,rfl,?_⟩
    refine⟨0,?_,?_,?_⟩
    all_goals first|rfl|(simp only[dk,seval,-Int.reduceToNat,hr1,hr8]<;>rfl)
theorem qW:bE Tryz.prog 57 kU:=bE.of (mode := .clean) tok Fw mixed Tryz.func57 (by kernel_rfl) ⟨by kernel_rfl,by kernel_rfl⟩ (fun _=>Nat.le_of_ble_eq_true (by kernel_rfl)) (fun x r h=>Jo x r h)
noncomputable def zF:=dI (cH (cI fM) (dn (cI fM))) (fun x:aw×aw=>sb x.1 x.2) (fun r:aw×Int =>.clean (.tup [.agg [.int .i64 r.1.ah,.sl false false r.1.aa.length (ab (eI .i64) r.1.aa)],.int .i64 r.2]))
theorem HT (p0_0:Int) (p0_1:(List Int)) (p1_0:Int) (p1_1:(List Int)):zF none [.agg [.int .i64 p0_0,.sl false false p0_1.length (ab (eI .i64) p0_1)],.agg [.int .i64 p1_0,.sl false false p1_1.length (ab (eI .i64) p1_1)]]=(sb (aw.mk p0_0 p0_1) (aw.mk p1_0 p1_1)).map fun r:aw×Int=>(.clean (.tup [.agg [.int .i64 r.1.ah,.sl false false r.1.aa.length (ab (eI .i64) r.1.aa)],.int .i64 r.2]),none):=aC _ _ _ ((aw.mk p0_0 p0_1),(aw.mk p1_0 p1_1))
noncomputable def vJ:Env:=(Am.ext (Am.ext (Am.ext (Am.ext aU 97 false ja) 124 false mh) 126 false kS) 164 false vr)
theorem OE:bK Tryz.prog vJ:=((((bK.none.add lr false).add u6 false).add qV false).add Em false)
theorem iP:type_of% (ai @w<|ai @fC<|ai @iL<|ai @jt<|ai @oE<|@vJ.eq_1):=⟨@w,@fC,@iL,@jt,@oE,@vJ.eq_1⟩
theorem SO (p0:aw) (p1:aw) (r:aw×Int) (hh:sb p0 p1=some r):aM .clean tab vJ FU Tryz.f130 none [.agg [.int .i64 p0.ah,.sl false false p0.aa.length (ab (eI .i64) p0.aa)],.agg [.int .i64 p1.ah,.sl false false p1.aa.length (ab (eI .i64) p1.aa)]]=some (.clean (.tup [.agg [.int .i64 r.1.ah,.sl false false r.1.aa.length (ab (eI .i64) r.1.aa)],.int .i64 r.2]),none):=by
 refine aq rfl Tryz.ntmps130 Tryz.results130 ?_
 unfold sb at hh
 obtain⟨r1,hr1,hh⟩:=ae hh
 try simp only[iP,seval,-Int.reduceToNat,hr1]
 obtain⟨o2,ho2,hh⟩:=ae hh
 refine bA 0 (fun s t H e=>match s with|s13j1=>∃v2j1:Nat,∃v3j1:Nat,∃v4j1:Nat,t 2=.ptr 2 v2j1 0∧t 3=.ptr 3 v3j1 0∧t 4=.ptr 4 v4j1 0∧t 13=.bool s13j1∧H 2=some ⟨v2j1,49,[.int .i64 p0.ah,.sl false false p0.aa.length (ab (eI .i64) p0.aa)],false,false,false⟩∧H 3=some ⟨v3j1,49,[.int .i64 p1.ah,.sl false false p1.aa.length (ab (eI .i64) p1.aa)],false,false,false⟩∧H 4=some ⟨v4j1,49,[.int .i64 0,.sl true true 0 []],false,false,false⟩) (fun s=>s=o2) ?_ ?_
 ·rintro s13j1 t H e ⟨v2j1,v3j1,v4j1,Zj1⟩ rfl
  try dsimp only at hh
  try simp only[iP,seval,-Int.reduceToNat,hr1,Zj1]
  refine sp aj hh (fun _ hh =>?_) (fun _ hh =>?_)
  ·have i4:=iL false 0 ([])
   simp only[aZ,b6,List.length_cons,List.length_nil,Nat.zero_add,Nat.reduceAdd,List.length_set]at i4
   obtain⟨r5,hr5,hh⟩:=ae hh
   cases hh
   try simp only[iP,seval,-Int.reduceToNat,hr1,Zj1,i4,hr5]
  ·obtain⟨r6,hr6,hh⟩:=ae hh
   obtain⟨r7,hr7,hh⟩:=ae hh
   obtain⟨r8,hr8,hh⟩:=ae hh
   try simp only[iP,seval,-Int.reduceToNat,hr1,Zj1,hr6,hr7,hr8]
   refine cf (by kernel_rfl) ?_
   cases hh
   try simp only[iP,seval,-Int.reduceToNat,hr1,Zj1,hr6,hr7,hr8]
 ·clear hh
  have hh:=ho2
  try simp only[iP,seval,-Int.reduceToNat,hr1]
  refine sp aB hh (fun _ hh =>?_) (fun _ hh =>?_)
  ·cases hh
   try simp only[iP,seval,-Int.reduceToNat,hr1]
   rw[ak]
   refine⟨_,rfl,?_⟩
   refine⟨0,0,0,?_,?_,?_,?_,?_,?_,?_⟩
   all_goals first|rfl|(simp only[iP,seval,-Int.reduceToNat,hr1]<;>rfl)
  ·obtain⟨r10,hr10,hh⟩:=ae hh
   cases hh
   try simp only[iP,seval,-Int.reduceToNat,hr1,hr10]
   rw[ak]
   refine⟨_,rfl,?_⟩
   refine⟨0,0,0,?_,?_,?_,?_,?_,?_,?_⟩
   all_goals first|rfl|(simp only[iP,seval,-Int.reduceToNat,hr1,hr10]<;>rfl)
theorem Po:bE Tryz.prog 130 zF:=bE.of (mode := .clean) tok OE mixed Tryz.func130 (by kernel_rfl) ⟨by kernel_rfl,by kernel_rfl⟩ (fun _=>Nat.le_of_ble_eq_true (by kernel_rfl)) (fun x r h=>SO x.1 x.2 r h)
noncomputable def rK:=dI (cH (cI fM) (dn (cI fM))) (fun x:aw×aw=>gz x.1 x.2) (fun r:aw =>.clean (.agg [.int .i64 r.ah,.sl false false r.aa.length (ab (eI .i64) r.aa)]))
theorem zf (p0_0:Int) (p0_1:(List Int)) (p1_0:Int) (p1_1:(List Int)):rK none [.agg [.int .i64 p0_0,.sl false false p0_1.length (ab (eI .i64) p0_1)],.agg [.int .i64 p1_0,.sl false false p1_1.length (ab (eI .i64) p1_1)]]=(gz (aw.mk p0_0 p0_1) (aw.mk p1_0 p1_1)).map fun r:aw=>(.clean (.agg [.int .i64 r.ah,.sl false false r.aa.length (ab (eI .i64) r.aa)]),none):=aC _ _ _ ((aw.mk p0_0 p0_1),(aw.mk p1_0 p1_1))
noncomputable def nU:Env:=(Am.ext aU 130 false zF)
theorem Fx:bK Tryz.prog nU:=(bK.none.add Po false)
theorem Kc:type_of% (ai @w<|ai @HT<|@nU.eq_1):=⟨@w,@HT,@nU.eq_1⟩
theorem Jp (p0:aw) (p1:aw) (r:aw) (hh:gz p0 p1=some r):aM .clean tab nU FU Tryz.f101 none [.agg [.int .i64 p0.ah,.sl false false p0.aa.length (ab (eI .i64) p0.aa)],.agg [.int .i64 p1.ah,.sl false false p1.aa.length (ab (eI .i64) p1.aa)]]=some (.clean (.agg [.int .i64 r.ah,.sl false false r.aa.length (ab (eI .i64) r.aa)]),none):=by
 refine aq rfl Tryz.ntmps101 Tryz.results101 ?_
 unfold gz at hh
 obtain⟨r1,hr1,hh⟩:=ae hh
 cases hh
 try simp only[Kc,seval,-Int.reduceToNat,hr1]
theorem F0:bE Tryz.prog 101 rK:=bE.of (mode := .clean) tok Fx mixed Tryz.func101 (by kernel_rfl) ⟨by kernel_rfl,by kernel_rfl⟩ (fun _=>Nat.le_of_ble_eq_true (by kernel_rfl)) (fun x r h=>Jp x.1 x.2 r h)
noncomputable def qO:=dI (cH (cI fM) (dn (cI fM))) (fun x:aw×aw=>jc x.1 x.2) (fun r:Int =>.clean (.int .i64 r))
theorem w6 (p0_0:Int) (p0_1:(List Int)) (p1_0:Int) (p1_1:(List Int)):qO none [.agg [.int .i64 p0_0,.sl false false p0_1.length (ab (eI .i64) p0_1)],.agg [.int .i64 p1_0,.sl false false p1_1.length (ab (eI .i64) p1_1)]]=(jc (aw.mk p0_0 p0_1) (aw.mk p1_0 p1_1)).map fun r:Int=>(.clean (.int .i64 r),none):=aC _ _ _ ((aw.mk p0_0 p0_1),(aw.mk p1_0 p1_1))
noncomputable def mv:Env:=(Am.ext (Am.ext (Am.ext aU 97 false ja) 128 false mj) 129 false mi)
theorem DP:bK Tryz.prog mv:=(((bK.none.add lr false).add va false).add u7 false)
theorem dA:type_of% (ai @w<|ai @fC<|ai @mG<|ai @mF<|@mv.eq_1):=⟨@w,@fC,@mG,@mF,@mv.eq_1⟩
theorem FL (p0:aw) (p1:aw) (r:Int) (hh:jc p0 p1=some r):aM .clean tab mv FU Tryz.f100 none [.agg [.int .i64 p0.ah,.sl false false p0.aa.length (ab (eI .i64) p0.aa)],.agg [.int .i64 p1.ah,.sl false false p1.aa.length (ab (eI .i64) p1.aa)]]=some (.clean (.int .i64 r),none):=by
 refine aq rfl Tryz.ntmps100 Tryz.results100 ?_
 unfold jc at hh
 obtain⟨r1,hr1,hh⟩:=ae hh
 try simp only[dA,seval,-Int.reduceToNat,hr1]
 obtain⟨o2,ho2,hh⟩:=ae hh
 refine bA 0 (fun s t H e=>match s with|s12j1=>∃v2j1:Nat,∃v3j1:Nat,t 2=.ptr 2 v2j1 0∧t 3=.ptr 3 v3j1 0∧t 12=.bool s12j1∧H 2=some ⟨v2j1,49,[.int .i64 p0.ah,.sl false false p0.aa.length (ab (eI .i64) p0.aa)],false,false,false⟩∧H 3=some ⟨v3j1,49,[.int .i64 p1.ah,.sl false false p1.aa.length (ab (eI .i64) p1.aa)],false,false,false⟩) (fun s=>s=o2) ?_ ?_
 ·rintro s12j1 t H e ⟨v2j1,v3j1,Zj1⟩ rfl
  try dsimp only at hh
  try simp only[dA,seval,-Int.reduceToNat,hr1,Zj1]
  refine sp aj hh (fun _ hh =>?_) (fun _ hh =>?_)
  ·cases hh
   try simp only[dA,seval,-Int.reduceToNat,hr1,Zj1]
  ·try simp only[dA,seval,-Int.reduceToNat,hr1,Zj1]
   refine sp aj hh (fun _ hh =>?_) (fun _ hh =>?_)
   ·obtain⟨r5,hr5,hh⟩:=ae hh
    cases hh
    try simp only[dA,seval,-Int.reduceToNat,hr1,Zj1,hr5]
   ·obtain⟨r6,hr6,hh⟩:=ae hh
    try simp only[dA,seval,-Int.reduceToNat,hr1,Zj1,hr6]
    refine cf (by kernel_rfl) ?_
    cases hh
    try simp only[dA,seval,-Int.reduceToNat,hr1,Zj1,hr6]
 ·clear hh
  have hh:=ho2
  try simp only[dA,seval,-Int.reduceToNat,hr1]
  refine sp aB hh (fun _ hh =>?_) (fun _ hh =>?_)
  ·cases hh
   try simp only[dA,seval,-Int.reduceToNat,hr1]
   rw[ak]
   refine⟨_,rfl,?_⟩
   refine⟨0,0,?_,?_,?_,?_,?_⟩
   all_goals first|rfl|(simp only[dA,seval,-Int.reduceToNat,hr1]<;>rfl)
  ·obtain⟨r8,hr8,hh⟩:=ae hh
   cases hh
   try simp only[dA,seval,-Int.reduceToNat,hr1,hr8]
   rw[ak]
   refine⟨_,rfl,?_⟩
   refine⟨0,0,?_,?_,?_,?_,?_⟩
   all_goals first|rfl|(simp only[dA,seval,-Int.reduceToNat,hr1,hr8]<;>rfl)
theorem El:bE Tryz.prog 100 qO:=bE.of (mode := .clean) tok DP mixed Tryz.func100 (by kernel_rfl) ⟨by kernel_rfl,by kernel_rfl⟩ (fun _=>Nat.le_of_ble_eq_true (by kernel_rfl)) (fun x r h=>FL x.1 x.2 r h)
noncomputable def kT:=dI (cH (cI jd) (dn (cI jd))) (fun x:aQ×aQ=>fm x.1 x.2) (fun r:Int =>.clean (.int .i64 r))
theorem lz (p0_0:Int) (p0_1:(List Int)) (p0_2:Int) (p0_3:(List Int)) (p1_0:Int) (p1_1:(List Int)) (p1_2:Int) (p1_3:(List Int)):kT none [.agg [.int .i64 p0_0,.sl false false p0_1.length (ab (eI .i64) p0_1),.int .i64 p0_2,.sl false false p0_3.length (ab (eI .i64) p0_3)],.agg [.int .i64 p1_0,.sl false false p1_1.length (ab (eI .i64) p1_1),.int .i64 p1_2,.sl false false p1_3.length (ab (eI .i64) p1_3)]]=(fm (aQ.mk (aw.mk p0_0 p0_1) (aw.mk p0_2 p0_3)) (aQ.mk (aw.mk p1_0 p1_1) (aw.mk p1_2 p1_3))).map fun r:Int=>(.clean (.int .i64 r),none):=aC _ _ _ ((aQ.mk (aw.mk p0_0 p0_1) (aw.mk p0_2 p0_3)),(aQ.mk (aw.mk p1_0 p1_1) (aw.mk p1_2 p1_3)))
noncomputable def lk:Env:=(Am.ext (Am.ext (Am.ext aU 57 false kU) 100 false qO) 101 false rK)
theorem B1:bK Tryz.prog lk:=(((bK.none.add qW false).add El false).add F0 false)
theorem dQ:type_of% (ai @w<|ai @ju<|ai @w6<|ai @zf<|@lk.eq_1):=⟨@w,@ju,@w6,@zf,@lk.eq_1⟩
theorem Eb (p0:aQ) (p1:aQ) (r:Int) (hh:fm p0 p1=some r):aM .clean tab lk FU Tryz.f58 none [.agg [.int .i64 p0.cn.ah,.sl false false p0.cn.aa.length (ab (eI .i64) p0.cn.aa),.int .i64 p0.cl.ah,.sl false false p0.cl.aa.length (ab (eI .i64) p0.cl.aa)],.agg [.int .i64 p1.cn.ah,.sl false false p1.cn.aa.length (ab (eI .i64) p1.cn.aa),.int .i64 p1.cl.ah,.sl false false p1.cl.aa.length (ab (eI .i64) p1.cl.aa)]]=some (.clean (.int .i64 r),none):=by
 refine aq rfl Tryz.ntmps58 Tryz.results58 ?_
 unfold fm at hh
 obtain⟨r1,hr1,hh⟩:=ae hh
 try simp only[dQ,seval,-Int.reduceToNat,hr1]
 obtain⟨o2,ho2,hh⟩:=ae hh
 refine bA 0 (fun s t H e=>match s with|s12j1=>∃v2j1:Nat,∃v3j1:Nat,t 2=.ptr 2 v2j1 0∧t 3=.ptr 3 v3j1 0∧t 12=.bool s12j1∧H 2=some ⟨v2j1,51,[.int .i64 p0.cn.ah,.sl false false p0.cn.aa.length (ab (eI .i64) p0.cn.aa),.int .i64 p0.cl.ah,.sl false false p0.cl.aa.length (ab (eI .i64) p0.cl.aa)],false,false,false⟩∧H 3=some ⟨v3j1,51,[.int .i64 p1.cn.ah,.sl false false p1.cn.aa.length (ab (eI .i64) p1.cn.aa),.int .i64 p1.cl.ah,.sl false false p1.cl.aa.length (ab (eI .i64) p1.cl.aa)],false,false,false⟩) (fun s=>s=o2) ?_ ?_
 ·rintro s12j1 t H e ⟨v2j1,v3j1,Zj1⟩ rfl
  try dsimp only at hh
  try simp only[dQ,seval,-Int.reduceToNat,hr1,Zj1]
  refine sp aj hh (fun _ hh =>?_) (fun _ hh =>?_)
  ·cases hh
   try simp only[dQ,seval,-Int.reduceToNat,hr1,Zj1]
  ·obtain⟨r4,hr4,hh⟩:=ae hh
   obtain⟨r5,hr5,hh⟩:=ae hh
   obtain⟨r6,hr6,hh⟩:=ae hh
   try simp only[dQ,seval,-Int.reduceToNat,hr1,Zj1,hr4,hr5,hr6]
   refine cf (by kernel_rfl) ?_
   cases hh
   try simp only[dQ,seval,-Int.reduceToNat,hr1,Zj1,hr4,hr5,hr6]
 ·clear hh
  have hh:=ho2
  try simp only[dQ,seval,-Int.reduceToNat,hr1]
  refine sp aB hh (fun _ hh =>?_) (fun _ hh =>?_)
  ·cases hh
   try simp only[dQ,seval,-Int.reduceToNat,hr1]
   rw[ak]
   refine⟨_,rfl,?_⟩
   refine⟨0,0,?_,?_,?_,?_,?_⟩
   all_goals first|rfl|(simp only[dQ,seval,-Int.reduceToNat,hr1]<;>rfl)
  ·obtain⟨r8,hr8,hh⟩:=ae hh
   cases hh
   try simp only[dQ,seval,-Int.reduceToNat,hr1,hr8]
   rw[ak]
   refine⟨_,rfl,?_⟩
   refine⟨0,0,?_,?_,?_,?_,?_⟩
   all_goals first|rfl|(simp only[dQ,seval,-Int.reduceToNat,hr1,hr8]<;>rfl)
theorem tL:bE Tryz.prog 58 kT:=bE.of (mode := .clean) tok B1 mixed Tryz.func58 (by kernel_rfl) ⟨by kernel_rfl,by kernel_rfl⟩ (fun _=>Nat.le_of_ble_eq_true (by kernel_rfl)) (fun x r h=>Eb x.1 x.2 r h)
noncomputable def nL:=dI (dn (cI sk)) (fun x:dt=>gC x) (fun r:Bool =>.clean (.bool r))
theorem oq (p0_0:Int) (p0_1:(List Int)) (p0_2:Int) (p0_3:(List Int)) (p0_4:Int) (p0_5:(List Int)) (p0_6:Int) (p0_7:(List Int)):nL none [.agg [.int .i64 p0_0,.sl false false p0_1.length (ab (eI .i64) p0_1),.int .i64 p0_2,.sl false false p0_3.length (ab (eI .i64) p0_3),.int .i64 p0_4,.sl false false p0_5.length (ab (eI .i64) p0_5),.int .i64 p0_6,.sl false false p0_7.length (ab (eI .i64) p0_7)]]=(gC (dt.mk (aQ.mk (aw.mk p0_0 p0_1) (aw.mk p0_2 p0_3)) (aQ.mk (aw.mk p0_4 p0_5) (aw.mk p0_6 p0_7)))).map fun r:Bool=>(.clean (.bool r),none):=aC _ _ _ ((dt.mk (aQ.mk (aw.mk p0_0 p0_1) (aw.mk p0_2 p0_3)) (aQ.mk (aw.mk p0_4 p0_5) (aw.mk p0_6 p0_7))))
noncomputable def nW:Env:=(Am.ext (Am.ext aU 57 false kU) 58 false kT)
theorem Fz:bK Tryz.prog nW:=((bK.none.add qW false).add tL false)
theorem lM:type_of% (ai @w<|ai @ju<|ai @lz<|@nW.eq_1):=⟨@w,@ju,@lz,@nW.eq_1⟩
theorem Js (p0:dt) (r:Bool) (hh:gC p0=some r):aM .clean tab nW FU Tryz.f30 none [.agg [.int .i64 p0.bq.cn.ah,.sl false false p0.bq.cn.aa.length (ab (eI .i64) p0.bq.cn.aa),.int .i64 p0.bq.cl.ah,.sl false false p0.bq.cl.aa.length (ab (eI .i64) p0.bq.cl.aa),.int .i64 p0.aT.cn.ah,.sl false false p0.aT.cn.aa.length (ab (eI .i64) p0.aT.cn.aa),.int .i64 p0.aT.cl.ah,.sl false false p0.aT.cl.aa.length (ab (eI .i64) p0.aT.cl.aa)]]=some (.clean (.bool r),none):=by
 refine aq rfl Tryz.ntmps30 Tryz.results30 ?_
 unfold gC at hh
 obtain⟨r1,hr1,hh⟩:=ae hh
 try simp only[lM,seval,-Int.reduceToNat,hr1]
 refine sp bd hh (fun _ hh =>?_) (fun _ hh =>?_)
 ·obtain⟨r3,hr3,hh⟩:=ae hh
  try simp only[lM,seval,-Int.reduceToNat,hr1,hr3]
  refine sp bd hh (fun _ hh =>?_) (fun _ hh =>?_)
  ·obtain⟨r5,hr5,hh⟩:=ae hh
   cases hh
   try simp only[lM,seval,-Int.reduceToNat,hr1,hr3,hr5]
  ·cases hh
   try simp only[lM,seval,-Int.reduceToNat,hr1,hr3]
 ·cases hh
  try simp only[lM,seval,-Int.reduceToNat,hr1]
theorem wX:bE Tryz.prog 30 nL:=bE.of (mode := .clean) tok Fz mixed Tryz.func30 (by kernel_rfl) ⟨by kernel_rfl,by kernel_rfl⟩ (fun _=>Nat.le_of_ble_eq_true (by kernel_rfl)) (fun x r h=>Js x r h)
noncomputable def ny:=dI (dn (cI aA)) (fun x:az=>iH x) (fun r:Bool =>.clean (.bool r))
theorem tO (p0_0:Int) (p0_1:Int) (p0_2:(List Int)) (p0_3:Int) (p0_4:(List Int)) (p0_5:Int) (p0_6:(List Int)) (p0_7:Int) (p0_8:(List Int)):ny none [.agg [.int .i64 p0_0,.int .i64 p0_1,.sl false false p0_2.length (ab (eI .i64) p0_2),.int .i64 p0_3,.sl false false p0_4.length (ab (eI .i64) p0_4),.int .i64 p0_5,.sl false false p0_6.length (ab (eI .i64) p0_6),.int .i64 p0_7,.sl false false p0_8.length (ab (eI .i64) p0_8)]]=(iH (az.mk p0_0 (dt.mk (aQ.mk (aw.mk p0_1 p0_2) (aw.mk p0_3 p0_4)) (aQ.mk (aw.mk p0_5 p0_6) (aw.mk p0_7 p0_8))))).map fun r:Bool=>(.clean (.bool r),none):=aC _ _ _ ((az.mk p0_0 (dt.mk (aQ.mk (aw.mk p0_1 p0_2) (aw.mk p0_3 p0_4)) (aQ.mk (aw.mk p0_5 p0_6) (aw.mk p0_7 p0_8)))))
noncomputable def jX:Env:=(Am.ext aU 30 false nL)
theorem Ag:bK Tryz.prog jX:=(bK.none.add wX false)
theorem Cb:type_of% (ai @w<|ai @oq<|@jX.eq_1):=⟨@w,@oq,@jX.eq_1⟩
theorem B2 (p0:az) (r:Bool) (hh:iH p0=some r):aM .clean tab jX FU Tryz.f41 none [.agg [.int .i64 p0.cg,.int .i64 p0.bz.bq.cn.ah,.sl false false p0.bz.bq.cn.aa.length (ab (eI .i64) p0.bz.bq.cn.aa),.int .i64 p0.bz.bq.cl.ah,.sl false false p0.bz.bq.cl.aa.length (ab (eI .i64) p0.bz.bq.cl.aa),.int .i64 p0.bz.aT.cn.ah,.sl false false p0.bz.aT.cn.aa.length (ab (eI .i64) p0.bz.aT.cn.aa),.int .i64 p0.bz.aT.cl.ah,.sl false false p0.bz.aT.cl.aa.length (ab (eI .i64) p0.bz.aT.cl.aa)]]=some (.clean (.bool r),none):=by
 refine aq rfl Tryz.ntmps41 Tryz.results41 ?_
 unfold iH at hh
 obtain⟨r1,hr1,hh⟩:=ae hh
 cases hh
 try simp only[Cb,seval,-Int.reduceToNat,hr1]
theorem Av:bE Tryz.prog 41 ny:=bE.of (mode := .clean) tok Ag mixed Tryz.func41 (by kernel_rfl) ⟨by kernel_rfl,by kernel_rfl⟩ (fun _=>Nat.le_of_ble_eq_true (by kernel_rfl)) (fun x r h=>B2 x r h)
noncomputable def kV:=dI (dn (aI .u64)) (fun x:Int=>iF x) (fun r:Int =>.clean (.int .i64 r))
theorem qv (p0:Int):kV none [.int .u64 p0]=(iF p0).map fun r:Int=>(.clean (.int .i64 r),none):=aC _ _ _ (p0)
theorem yX (p0:Int) (r:Int) (hh:iF p0=some r):aM .clean tab aU FU Tryz.f149 none [.int .u64 p0]=some (.clean (.int .i64 r),none):=by
 refine aq rfl Tryz.ntmps149 Tryz.results149 ?_
 unfold iF at hh
 try simp only[w,seval,-Int.reduceToNat]
 obtain⟨o1,ho1,hh⟩:=ae hh
 refine ns 0 (fun s t H e=>match s with|(s0j1,s2j1)=>t 0=.int .u64 s0j1∧t 2=.int .i64 s2j1) (fun s=>s=o1) ?_ ?_
 ·rintro⟨s0j1,s2j1⟩ t H e Zj1 rfl
  try dsimp only at hh
  try simp only[w,seval,-Int.reduceToNat,Zj1]
  obtain⟨o2,ho2,hh⟩:=ae hh
  refine ns 0 (fun s t H e=>match s with|(s0j2,s2j2)=>t 0=.int .u64 s0j2∧t 2=.int .i64 s2j2) (fun s=>s=o2) ?_ ?_
  ·rintro⟨s0j2,s2j2⟩ t H e Zj2 rfl
   try dsimp only at hh
   try simp only[w,seval,-Int.reduceToNat,Zj2]
   refine sp aj hh (fun _ hh =>?_) (fun _ hh =>?_)
   ·obtain⟨x4,hx4,hh⟩:=ae hh
    have q5:=tq hx4
    try simp only[w,seval,-Int.reduceToNat,Zj2,q5]
    obtain⟨x6,hx6,hh⟩:=ae hh
    obtain⟨q7a,q7b,q7c,q7d⟩:=RD hx6
    try simp only[w,seval,-Int.reduceToNat,Zj2,q5,q7a,q7d]
    erw [q7c]
    cases hh
    try simp only[w,seval,-Int.reduceToNat,Zj2,q5,q7a,q7d]
   ·try simp only[w,seval,-Int.reduceToNat,Zj2]
    obtain⟨x8,hx8,hh⟩:=ae hh
    obtain⟨q9a,q9b,q9c,q9d⟩:=RD hx8
    try simp only[w,seval,-Int.reduceToNat,Zj2,q9a,q9d]
    erw [q9c]
    cases hh
    try simp only[w,seval,-Int.reduceToNat,Zj2,q9a,q9d]
  ·clear hh
   have hh:=ho2
   try simp only[w,seval,-Int.reduceToNat,Zj1]
   refine sp aj hh (fun _ hh =>?_) (fun _ hh =>?_)
   ·obtain⟨x11,hx11,hh⟩:=ae hh
    have q12:=tq hx11
    cases hh
    try simp only[w,seval,-Int.reduceToNat,Zj1,q12]
    rw[ak]
    refine⟨_,rfl,?_⟩
    refine⟨?_,?_⟩
    all_goals first|rfl|(simp only[w,seval,-Int.reduceToNat,Zj1,q12]<;>rfl)
   ·cases hh
    try simp only[w,seval,-Int.reduceToNat,Zj1]
    rw[ak]
    refine⟨_,rfl,?_⟩
    refine⟨?_,?_⟩
    all_goals first|rfl|(simp only[w,seval,-Int.reduceToNat,Zj1]<;>rfl)
 ·clear hh
  have hh:=ho1
  try simp only[w,seval,-Int.reduceToNat]
  refine sp aj hh (fun _ hh =>?_) (fun _ hh =>?_)
  ·obtain⟨x14,hx14,hh⟩:=ae hh
   have q15:=tq hx14
   cases hh
   try simp only[w,seval,-Int.reduceToNat,q15]
   rw[ak]
   refine⟨_,rfl,?_⟩
   refine⟨?_,?_⟩
   all_goals first|rfl|(simp only[w,seval,-Int.reduceToNat,q15]<;>rfl)
  ·cases hh
   try simp only[w,seval,-Int.reduceToNat]
   rw[ak]
   refine⟨_,rfl,?_⟩
   refine⟨?_,?_⟩
   all_goals first|rfl|(simp only[w,seval,-Int.reduceToNat]<;>rfl)
theorem xM:bE Tryz.prog 149 kV:=bE.of (mode := .clean) tok bK.none mixed Tryz.func149 (by kernel_rfl) ⟨by kernel_rfl,by kernel_rfl⟩ (fun _=>Nat.le_of_ble_eq_true (by kernel_rfl)) (fun x r h=>yX x r h)
noncomputable def nA:=dI (dn (aI .u64)) (fun x:Int=>jM x) (fun r:Int =>.clean (.int .i64 r))
theorem tP (p0:Int):nA none [.int .u64 p0]=(jM p0).map fun r:Int=>(.clean (.int .i64 r),none):=aC _ _ _ (p0)
noncomputable def jY:Env:=(Am.ext aU 149 false kV)
theorem Ah:bK Tryz.prog jY:=(bK.none.add xM false)
theorem Cc:type_of% (ai @w<|ai @qv<|@jY.eq_1):=⟨@w,@qv,@jY.eq_1⟩
theorem B3 (p0:Int) (r:Int) (hh:jM p0=some r):aM .clean tab jY FU Tryz.f107 none [.int .u64 p0]=some (.clean (.int .i64 r),none):=by
 refine aq rfl Tryz.ntmps107 Tryz.results107 ?_
 unfold jM at hh
 obtain⟨r1,hr1,hh⟩:=ae hh
 cases hh
 try simp only[Cc,seval,-Int.reduceToNat,hr1]
theorem Aw:bE Tryz.prog 107 nA:=bE.of (mode := .clean) tok Ah mixed Tryz.func107 (by kernel_rfl) ⟨by kernel_rfl,by kernel_rfl⟩ (fun _=>Nat.le_of_ble_eq_true (by kernel_rfl)) (fun x r h=>B3 x r h)
noncomputable def xm:=dI (cH (aI .i64) (dn (aI .i64))) (fun x:Int×Int=>uz x.1 x.2) (fun r:Bool =>.clean (.bool r))
theorem EB (p0:Int) (p1:Int):xm none [.int .i64 p0,.int .i64 p1]=(uz p0 p1).map fun r:Bool=>(.clean (.bool r),none):=aC _ _ _ (p0,p1)
noncomputable def sn:Env:=(Am.ext aU 166 false pG)
theorem Lv:bK Tryz.prog sn:=(bK.none.add y3 false)
theorem pC:type_of% (ai @w<|ai @qu<|@sn.eq_1):=⟨@w,@qu,@sn.eq_1⟩
theorem OY (p0:Int) (p1:Int) (r:Bool) (hh:uz p0 p1=some r):aM .clean tab sn FU Tryz.f145 none [.int .i64 p0,.int .i64 p1]=some (.clean (.bool r),none):=by
 refine aq rfl Tryz.ntmps145 Tryz.results145 ?_
 unfold uz at hh
 obtain⟨r1,hr1,hh⟩:=ae hh
 try simp only[pC,seval,-Int.reduceToNat,hr1]
 refine sp bd hh (fun _ hh =>?_) (fun _ hh =>?_)
 ·obtain⟨r3,hr3,hh⟩:=ae hh
  try simp only[pC,seval,-Int.reduceToNat,hr1,hr3]
  refine sp aB hh (fun _ hh =>?_) (fun _ hh =>?_)
  ·cases hh
   try simp only[pC,seval,-Int.reduceToNat,hr1,hr3]
  ·cases hh
   try simp only[pC,seval,-Int.reduceToNat,hr1,hr3]
 ·cases hh
  try simp only[pC,seval,-Int.reduceToNat,hr1]
theorem M3:bE Tryz.prog 145 xm:=bE.of (mode := .clean) tok Lv mixed Tryz.func145 (by kernel_rfl) ⟨by kernel_rfl,by kernel_rfl⟩ (fun _=>Nat.le_of_ble_eq_true (by kernel_rfl)) (fun x r h=>OY x.1 x.2 r h)
noncomputable def eH:=TF 3 (eI .i64) (cH (aI .i64) (dn (aI .i64))) (fun (l:(List Int)) (x:Int×Int)=>b8 l x.1 x.2) (fun r:Unit =>.clean (.tup []))
theorem lQ (pre post:List D) (p0:(List Int)) (p1:Int) (p2:Int):eH (some (.buf 0 0 1 pre.length p0.length,⟨0,3,pre++(ab (eI .i64) p0++post),false,true,false⟩)) [.int .i64 p1,.int .i64 p2]=(b8 p0 p1 p2).map fun r=>(.clean (.tup []),some ⟨0,3,pre++(ab (eI .i64) r.1++post),false,true,false⟩):=Eg _ _ _ _ _ pre post p0 (p1,p2)
noncomputable def dw:Env:=(Am.ext aU 145 false xm)
theorem ll:bK Tryz.prog dw:=(bK.none.add M3 false)
theorem an:type_of% (ai @w<|ai @EB<|@dw.eq_1):=⟨@w,@EB,@dw.eq_1⟩
theorem lP (pre post:List D) (p0:(List Int)) (p1:Int) (p2:Int) (r:(List Int)×(Unit)) (hh:b8 p0 p1 p2=some r):aM .clean tab dw FU Tryz.f139 (some (.buf 0 0 1 pre.length p0.length,⟨0,3,pre++(ab (eI .i64) p0++post),false,true,false⟩)) [.int .i64 p1,.int .i64 p2]=some (.clean (.tup []),some ⟨0,3,pre++(ab (eI .i64) r.1++post),false,true,false⟩):=by
 refine pB rfl Tryz.ntmps139 Tryz.results139 ?_
 unfold b8 at hh
 obtain⟨rw,hrw,hh⟩:=ae hh
 split at hh
 rotate_left
 ·cases hh
 cases hh
 rename_i hlen
 replace hh:=hrw
 unfold gG at hh
 try simp only[an,seval,-Int.reduceToNat]
 obtain⟨o25,ho25,hh⟩:=ae hh
 refine ax (fun s t H e=>match s with|(s6a,l0a)=>t 0=.buf 0 0 1 pre.length (l0a).length∧t 1=.int .i64 p1∧t 2=.int .i64 p2∧t 6=.int .i64 s6a∧H 0=some ⟨0,3,pre++(ab (eI .i64) l0a++post),false,true,false⟩) (fun o x t H e=>match o with|l0ax=>x=.exit 0∧t 0=.buf 0 0 1 pre.length (l0ax).length∧H 0=some ⟨0,3,pre++(ab (eI .i64) l0ax++post),false,true,false⟩) ho25 ?_ ?_ ?_
 ·refine⟨?_,?_,?_,?_,?_⟩
  all_goals first|rfl|(simp only[an,seval,-Int.reduceToNat]<;>rfl)
 ·rintro⟨s6a,l0a⟩ t H e Za c hh
  simp only[gq]at hh
  try simp only[an,seval,-Int.reduceToNat,Za]
  refine sp aj hh (fun _ hh =>?_) (fun _ hh =>?_)
  ·try simp only[an,seval,-Int.reduceToNat,Za]
   obtain⟨o38,ho38,hh⟩:=ae hh
   refine ax (fun s t H e=>match s with|(s7e,l0e)=>t 0=.buf 0 0 1 pre.length (l0e).length∧t 1=.int .i64 p1∧t 2=.int .i64 p2∧t 6=.int .i64 s6a∧t 7=.int .i64 s7e∧H 0=some ⟨0,3,pre++(ab (eI .i64) l0e++post),false,true,false⟩) (fun o x t H e=>match o with|l0ex=>x=.exit 2∧t 0=.buf 0 0 1 pre.length (l0ex).length∧t 1=.int .i64 p1∧t 2=.int .i64 p2∧t 6=.int .i64 s6a∧H 0=some ⟨0,3,pre++(ab (eI .i64) l0ex++post),false,true,false⟩) ho38 ?_ ?_ ?_
   ·refine⟨?_,?_,?_,?_,?_,?_⟩
    all_goals first|rfl|(simp only[an,seval,-Int.reduceToNat,Za]<;>rfl)
   ·rintro⟨s7e,l0e⟩ t H e Ze c hh
    simp only[gr]at hh
    try simp only[an,seval,-Int.reduceToNat,Ze]
    obtain⟨o39,ho39,hh⟩:=ae hh
    refine NW 0 (fun s t H e=>match s with|s30j7=>t 0=.buf 0 0 1 pre.length (l0e).length∧t 1=.int .i64 p1∧t 2=.int .i64 p2∧t 6=.int .i64 s6a∧t 7=.int .i64 s7e∧t 30=.bool s30j7∧H 0=some ⟨0,3,pre++(ab (eI .i64) l0e++post),false,true,false⟩) (fun s=>s=o39) ?_ ?_
    ·rintro s30j7 t H e Zj7 rfl
     try dsimp only at hh
     try simp only[an,seval,-Int.reduceToNat,Zj7]
     refine sp aj hh (fun _ hh =>?_) (fun _ hh =>?_)
     ·obtain⟨x41,hx41,hh⟩:=ae hh
      have ax41:=uS (pre:=pre) (post:=post) (eI .i64) hx41
      simp only[b6]at ax41
      obtain⟨x42,hx42,hh⟩:=ae hh
      have ax42:=uS (pre:=pre) (post:=post) (eI .i64) hx42
      simp only[b6]at ax42
      have ax42:=uS (pre:=pre) (post:=post) (eI .i64) hx42
      simp only[b6]at ax42
      have p43:=ze (pre:=pre) (post:=post) (eI .i64) (y':=x41) hx42
      simp only[b6]at p43
      have up43:=p43
      simp only[putCells,List.length_cons,List.length_nil,Nat.zero_add,Nat.reduceAdd]at up43
      obtain⟨x44,hx44,hh⟩:=ae hh
      have ax44:=uS (pre:=pre) (post:=post) (eI .i64) hx44
      simp only[b6,List.length_set]at ax44
      have p45:=ze (pre:=pre) (post:=post) (eI .i64) (y':=x42) hx44
      simp only[b6]at p45
      have up45:=p45
      simp only[putCells,List.length_cons,List.length_nil,Nat.zero_add,Nat.reduceAdd]at up45
      try simp only[an,seval,-Int.reduceToNat,Zj7,ax41,ax42,ax42,p43,up43,ax44,p45,up45]
      refine cf (by kernel_rfl) ?_
      cases hh
      try simp only[an,seval,-Int.reduceToNat,Zj7,ax41,ax42,ax42,p43,up43,ax44,p45,up45]
      refine gA ?_
      refine⟨?_,?_,?_,?_,?_,?_⟩
      all_goals first|rfl|(simp only[an,seval,-Int.reduceToNat,Zj7,ax41,ax42,ax42,p43,up43,ax44,p45,up45]<;>rfl)
     ·cases hh
      try simp only[an,seval,-Int.reduceToNat,Zj7]
      refine iS ?_
      refine⟨rfl,⟨?_,?_,?_,?_,?_⟩⟩
      all_goals first|rfl|(simp only[an,seval,-Int.reduceToNat,Zj7]<;>rfl)
    ·clear hh
     have hh:=ho39
     try simp only[an,seval,-Int.reduceToNat,Ze]
     refine sp tw hh (fun _ hh =>?_) (fun _ hh =>?_)
     ·obtain⟨x47,hx47,hh⟩:=ae hh
      have ax47:=uS (pre:=pre) (post:=post) (eI .i64) hx47
      simp only[b6]at ax47
      obtain⟨x48,hx48,hh⟩:=ae hh
      have ax48:=uS (pre:=pre) (post:=post) (eI .i64) hx48
      simp only[b6]at ax48
      obtain⟨r49,hr49,hh⟩:=ae hh
      try simp only[an,seval,-Int.reduceToNat,Ze,ax47,ax48,hr49]
      refine cf (by kernel_rfl) ?_
      cases hh
      try simp only[an,seval,-Int.reduceToNat,Ze,ax47,ax48,hr49]
      rw[ak]
      refine⟨_,rfl,?_⟩
      refine⟨?_,?_,?_,?_,?_,?_,?_⟩
      all_goals first|rfl|(simp only[an,seval,-Int.reduceToNat,Ze,ax47,ax48,hr49]<;>rfl)
     ·try simp only[an,seval,-Int.reduceToNat,Ze]
      refine cf (by kernel_rfl) ?_
      cases hh
      try simp only[an,seval,-Int.reduceToNat,Ze]
      rw[ak]
      refine⟨_,rfl,?_⟩
      refine⟨?_,?_,?_,?_,?_,?_,?_⟩
      all_goals first|rfl|(simp only[an,seval,-Int.reduceToNat,Ze]<;>rfl)
   ·rintro x t H e hx
    obtain⟨l0ex,rfl⟩:∃z,z=o38:=⟨_,rfl⟩
    dsimp only at hx hh
    obtain⟨rfl,Zex⟩:=hx
    cases hh
    try simp only[an,seval,-Int.reduceToNat,Zex]
    refine gA ?_
    refine⟨?_,?_,?_,?_,?_⟩
    all_goals first|rfl|(simp only[an,seval,-Int.reduceToNat,Zex]<;>rfl)
  ·cases hh
   try simp only[an,seval,-Int.reduceToNat,Za]
   refine iS ?_
   refine⟨rfl,⟨?_,?_⟩⟩
   all_goals first|rfl|(simp only[an,seval,-Int.reduceToNat,Za]<;>rfl)
 ·rintro x t H e hx
  obtain⟨l0ax,rfl⟩:∃z,z=o25:=⟨_,rfl⟩
  dsimp only at hx hh
  obtain⟨rfl,Zax⟩:=hx
  cases hh
  try simp only[an,seval,-Int.reduceToNat,Zax]
theorem lu:bE Tryz.prog 139 eH:=bE.Rh (mode := .clean) tok ll mixed Tryz.func139 (by kernel_rfl) ⟨by kernel_rfl,by kernel_rfl⟩ (fun _=>Nat.le_of_ble_eq_true (by kernel_rfl)) (fun pre post l x l' r h=>lP pre post l x.1 x.2 (l',r) h)
noncomputable def fQ:=TF 3 (eI .i64) (cH (aI .i64) (cH (aI .i64) (dn (aI .i64)))) (fun (l:(List Int)) (x:Int×Int×Int)=>cL l x.1 x.2.1 x.2.2) (fun r:Unit =>.clean (.tup []))
theorem pF (pre post:List D) (p0:(List Int)) (p1:Int) (p2:Int) (p3:Int):fQ (some (.buf 0 0 1 pre.length p0.length,⟨0,3,pre++(ab (eI .i64) p0++post),false,true,false⟩)) [.int .i64 p1,.int .i64 p2,.int .i64 p3]=(cL p0 p1 p2 p3).map fun r=>(.clean (.tup []),some ⟨0,3,pre++(ab (eI .i64) r.1++post),false,true,false⟩):=Eg _ _ _ _ _ pre post p0 (p1,p2,p3)
noncomputable def eJ:Env:=(Am.ext aU 139 true eH)
theorem pb:bK Tryz.prog eJ:=(bK.none.add lu true)
theorem cT:type_of% (ai @w<|@eJ.eq_1):=⟨@w,@eJ.eq_1⟩
theorem pE (pre post:List D) (p0:(List Int)) (p1:Int) (p2:Int) (p3:Int) (r:(List Int)×(Unit)) (hh:cL p0 p1 p2 p3=some r):aM .clean tab eJ FU Tryz.f106 (some (.buf 0 0 1 pre.length p0.length,⟨0,3,pre++(ab (eI .i64) p0++post),false,true,false⟩)) [.int .i64 p1,.int .i64 p2,.int .i64 p3]=some (.clean (.tup []),some ⟨0,3,pre++(ab (eI .i64) r.1++post),false,true,false⟩):=by
 refine pB rfl Tryz.ntmps106 Tryz.results106 ?_
 unfold cL at hh
 obtain⟨rw,hrw,hh⟩:=ae hh
 split at hh
 rotate_left
 ·cases hh
 cases hh
 rename_i hlen
 replace hh:=hrw
 unfold jC at hh
 try simp only[cT,seval,-Int.reduceToNat]
 obtain⟨o6,ho6,hh⟩:=ae hh
 refine ax (fun s t H e=>match s with|_=>t 0=.buf 0 0 1 pre.length (p0).length∧t 1=.int .i64 p1∧t 2=.int .i64 p2∧t 3=.int .i64 p3∧t 8=.bool true∧t 9=.bool true∧H 0=some ⟨0,3,pre++(ab (eI .i64) p0++post),false,true,false⟩) (fun o x t H e=>match o with|r=>x=.ret∧eW .clean tab (some (.buf 0 0 1 pre.length p0.length,⟨0,3,pre++(ab (eI .i64) p0++post),false,true,false⟩)) [] ⟨t,H,e⟩=some (.clean (.tup []),some ⟨0,3,pre++(ab (eI .i64) r.1++post),false,true,false⟩)) ho6 ?_ ?_ ?_
 ·refine⟨?_,?_,?_,?_,?_,?_,?_⟩
  all_goals first|rfl|(simp only[cT,seval,-Int.reduceToNat]<;>rfl)
 ·rintro _ t H e Za c hh
  simp only[ji]at hh
  try simp only[cT,seval,-Int.reduceToNat,Za]
  refine sp aj hh (fun _ hh =>?_) (fun _ hh =>?_)
  ·have i8:=lQ pre post p0 p1 p2
   try simp only[List.nil_append,List.append_nil,List.length_nil,aZ,List.length_set,b6]at i8
   obtain⟨r9,hr9,hh⟩:=ae hh
   have q10l:=kP hr9
   cases hh
   try simp only[cT,seval,-Int.reduceToNat,Za,i8,hr9,q10l]
   refine pc ⟨rfl,?_⟩
   try simp only[cT,seval,-Int.reduceToNat,Za,i8,hr9,q10l]
  ·try simp only[cT,seval,-Int.reduceToNat,Za]
   refine sp aj hh (fun _ hh =>?_) (fun _ hh =>?_)
   ·cases hh
   ·cases hh
 ·rintro x t H e hx
  rcases o6 with ra
  dsimp only at hx hh
  obtain⟨rfl,hE⟩:=hx
  cases hh
  try simp only[aO,aG,aW,bX,bW]
  exact hE
theorem pf:bE Tryz.prog 106 fQ:=bE.Rh (mode := .clean) tok pb mixed Tryz.func106 (by kernel_rfl) ⟨by kernel_rfl,by kernel_rfl⟩ (fun _=>Nat.le_of_ble_eq_true (by kernel_rfl)) (fun pre post l x l' r h=>pE pre post l x.1 x.2.1 x.2.2 (l',r) h)
noncomputable def BT:=TF 3 (eI .i64) (WJ) (fun (l:(List Int)) (x:Unit)=>qZ l) (fun r:Unit =>.clean (.tup []))
noncomputable def jZ:Env:=(Am.ext (Am.ext aU 106 true fQ) 107 false nA)
theorem Ai:bK Tryz.prog jZ:=((bK.none.add pf true).add Aw false)
theorem Cd:type_of% (ai @w<|ai @tP<|@jZ.eq_1):=⟨@w,@tP,@jZ.eq_1⟩
theorem B4 (pre post:List D) (p0:(List Int)) (r:(List Int)×(Unit)) (hh:qZ p0=some r):aM .clean tab jZ FU Tryz.f69 (some (.buf 0 0 1 pre.length p0.length,⟨0,3,pre++(ab (eI .i64) p0++post),false,true,false⟩)) []=some (.clean (.tup []),some ⟨0,3,pre++(ab (eI .i64) r.1++post),false,true,false⟩):=by
 refine pB rfl Tryz.ntmps69 Tryz.results69 ?_
 unfold qZ at hh
 obtain⟨rw,hrw,hh⟩:=ae hh
 split at hh
 rotate_left
 ·cases hh
 cases hh
 rename_i hlen
 replace hh:=hrw
 unfold tT at hh
 obtain⟨r1,hr1,hh⟩:=ae hh
 have i2:=pF pre post p0 0 ((p0).length:Int) r1
 try simp only[List.nil_append,List.append_nil,List.length_nil,aZ,List.length_set,b6]at i2
 obtain⟨r3,hr3,hh⟩:=ae hh
 have q4l:=oc hr3
 cases hh
 try simp only[Cd,seval,-Int.reduceToNat,hr1,i2,hr3,q4l]
theorem Ay:bE Tryz.prog 69 BT:=bE.Rh (mode := .clean) tok Ai mixed Tryz.func69 (by kernel_rfl) ⟨by kernel_rfl,by kernel_rfl⟩ (fun _=>Nat.le_of_ble_eq_true (by kernel_rfl)) (fun pre post l x l' r h=>B4 pre post l (l',r) h)
noncomputable def rQ:=TF 3 (eI .i64) WJ (fun (l:(List Int)) (_:Unit)=>kf l) (fun _:Unit =>.clean (.tup []))
theorem JX (pre post:List D) (p0:(List Int)):rQ (some (.buf 0 0 1 pre.length p0.length,⟨0,3,pre++(ab (eI .i64) p0++post),false,true,false⟩)) []=(kf p0).map fun r=>(.clean (.tup []),some ⟨0,3,pre++(ab (eI .i64) r.1++post),false,true,false⟩):=Eg _ _ _ _ _ pre post p0 ()
theorem aam:TO Tryz.prog 69:=fun blk off cap zs w hH hb hl=>Any.slices_Sort_int Tryz.Jk blk off cap zs w hH hb hl
theorem F3:bE Tryz.prog 69 rQ:=XA Tryz.func69 ⟨by kernel_rfl,by kernel_rfl⟩ (fun l=>by simp only[kf]) Ay (by kernel_rfl) aam
noncomputable def ij:=Yg 3 (eI .i64) WJ (fun (l:(List Int)) (_:Unit)=>jh l)
theorem pg (pre post:List D) (p0:(List Int)):ij (some (.buf 0 0 1 pre.length p0.length,⟨0,3,pre++(ab (eI .i64) p0++post),false,true,false⟩)) []=(jh p0).map fun r=>(.fresh 3 1 r.length (ab (eI .i64) r),none):=Vi _ _ _ _ pre post p0 ()
theorem nI:bE Tryz.prog 70 ij:=Oo Tryz.func70 ⟨by kernel_rfl,by kernel_rfl⟩ ⟨fun blk off cap zs w h1 h2 h3=>Any.slices_Compact_int Tryz.U8 blk off cap zs w h1 h2 h3,fun a cap w=>Any.slices_Compact_int_empty Tryz.U8 a cap w⟩
noncomputable def mg:=dI (dn (eZ (eI .i64))) (fun x:(List Int)=>fV x) (fun r:Bool =>.clean (.bool r))
theorem mE (p0:(List Int)):mg none [.sl false false p0.length (ab (eI .i64) p0)]=(fV p0).map fun r:Bool=>(.clean (.bool r),none):=aC _ _ _ (p0)
noncomputable def mu:Env:=(Am.ext (Am.ext (Am.ext aU 65 false e9) 69 true rQ) 70 true ij)
theorem DO:bK Tryz.prog mu:=(((bK.none.add iu false).add F3 true).add nI true)
theorem Gh:type_of% (ai @w<|ai @dH<|@mu.eq_1):=⟨@w,@dH,@mu.eq_1⟩
theorem FK (p0:(List Int)) (r:Bool) (hh:fV p0=some r):aM .clean tab mu FU Tryz.f42 none [.sl false false p0.length (ab (eI .i64) p0)]=some (.clean (.bool r),none):=by
 refine aq rfl Tryz.ntmps42 Tryz.results42 ?_
 unfold fV at hh
 obtain⟨r1,hr1,hh⟩:=ae hh
 have i2:=JX [] [] r1
 try simp only[List.nil_append,List.append_nil,List.length_nil,aZ,List.length_set,b6]at i2
 obtain⟨r3,hr3,hh⟩:=ae hh
 have q4l:=D8 hr3
 replace q4l:=q4l.symm
 try simp only[q4l]at i2
 have i5:=pg [] [] r3.1
 try simp only[List.nil_append,List.append_nil,List.length_nil,aZ,List.length_set,b6]at i5
 obtain⟨r6,hr6,hh⟩:=ae hh
 cases hh
 try simp only[Gh,seval,-Int.reduceToNat,hr1,i2,hr3,q4l,i5,hr6]
theorem u5:bE Tryz.prog 42 mg:=bE.of (mode := .clean) tok DO mixed Tryz.func42 (by kernel_rfl) ⟨by kernel_rfl,by kernel_rfl⟩ (fun _=>Nat.le_of_ble_eq_true (by kernel_rfl)) (fun x r h=>FK x r h)
noncomputable def ie:=dI (cH (cI aR) (dn (TR (eI .i64)))) (fun x:aF×Int=>dW x.1 x.2) (fun r:Bool =>.clean (.bool r))
theorem lx (p0_0:Int) (p0_1:(List Int)) (p0_2:ByteArray) (p0_3:Int) (p0_4:Int) (p1:Int):ie none [.agg [.int .i64 p0_0,.sl false false p0_1.length (ab (eI .i64) p0_1),.str p0_2,.int .i64 p0_3,.int .i64 p0_4],.ip [.int .i64 p1]]=(dW (aF.mk p0_0 p0_1 p0_2 p0_3 p0_4) p1).map fun r:Bool=>(.clean (.bool r),none):=aC _ _ _ ((aF.mk p0_0 p0_1 p0_2 p0_3 p0_4),p1)
theorem sI (p0:aF) (p1:Int) (r:Bool) (hh:dW p0 p1=some r):aM .clean tab aU FU Tryz.f72 none [.agg [.int .i64 p0.cg,.sl false false p0.cP.length (ab (eI .i64) p0.cP),.str p0.cp,.int .i64 p0.aE,.int .i64 p0.aY],.ip [.int .i64 p1]]=some (.clean (.bool r),none):=by
 refine aq rfl Tryz.ntmps72 Tryz.results72 ?_
 unfold dW at hh
 cases hh
 try simp only[w,seval,-Int.reduceToNat]
theorem rB:bE Tryz.prog 72 ie:=bE.of (mode := .clean) tok bK.none mixed Tryz.func72 (by kernel_rfl) ⟨by kernel_rfl,by kernel_rfl⟩ (fun _=>Nat.le_of_ble_eq_true (by kernel_rfl)) (fun x r h=>sI x.1 x.2 r h)
noncomputable def xA:=dI (cH (cI di) (dn (aI .i64))) (fun x:au×Int=>pA x.1 x.2) (fun r:Bool =>.clean (.bool r))
theorem EM (p0_0:(List av)) (p1:Int):xA none [.agg [.sl false false p0_0.length (ab al p0_0)],.int .i64 p1]=(pA (au.mk p0_0) p1).map fun r:Bool=>(.clean (.bool r),none):=aC _ _ _ ((au.mk p0_0),p1)
theorem Ph (p0:au) (p1:Int) (r:Bool) (hh:pA p0 p1=some r):aM .clean tab aU FU Tryz.f95 none [.agg [.sl false false p0.ag.length (ab al p0.ag)],.int .i64 p1]=some (.clean (.bool r),none):=by
 refine aq rfl Tryz.ntmps95 Tryz.results95 ?_
 unfold pA at hh
 try simp only[w,seval,-Int.reduceToNat]
 refine sp bd hh (fun _ hh =>?_) (fun _ hh =>?_)
 ·cases hh
  try simp only[w,seval,-Int.reduceToNat]
 ·cases hh
  try simp only[w,seval,-Int.reduceToNat]
theorem Nh:bE Tryz.prog 95 xA:=bE.of (mode := .clean) tok bK.none mixed Tryz.func95 (by kernel_rfl) ⟨by kernel_rfl,by kernel_rfl⟩ (fun _=>Nat.le_of_ble_eq_true (by kernel_rfl)) (fun x r h=>Ph x.1 x.2 r h)
noncomputable def rU:=dI (cH (cI di) (dn (eZ (eI .i64)))) (fun x:au×(List Int)=>iz x.1 x.2) (fun r:Bool =>.clean (.bool r))
theorem zl (p0_0:(List av)) (p1:(List Int)):rU none [.agg [.sl false false p0_0.length (ab al p0_0)],.sl false false p1.length (ab (eI .i64) p1)]=(iz (au.mk p0_0) p1).map fun r:Bool=>(.clean (.bool r),none):=aC _ _ _ ((au.mk p0_0),p1)
noncomputable def n0:Env:=(Am.ext (Am.ext aU 39 false gx) 95 false xA)
theorem FD:bK Tryz.prog n0:=((bK.none.add jg false).add Nh false)
theorem bx:type_of% (ai @w<|ai @dO<|ai @EM<|@n0.eq_1):=⟨@w,@dO,@EM,@n0.eq_1⟩
theorem Jy (p0:au) (p1:(List Int)) (r:Bool) (hh:iz p0 p1=some r):aM .clean tab n0 FU Tryz.f150 none [.agg [.sl false false p0.ag.length (ab al p0.ag)],.sl false false p1.length (ab (eI .i64) p1)]=some (.clean (.bool r),none):=by
 refine aq rfl Tryz.ntmps150 Tryz.results150 ?_
 unfold iz at hh
 obtain⟨r1,hr1,hh⟩:=ae hh
 try simp only[bx,seval,-Int.reduceToNat,hr1]
 obtain⟨o2,ho2,hh⟩:=ae hh
 refine bA 0 (fun s t H e=>match s with|s15j1=>∃v2j1:Nat,t 1=.sl false false p1.length (ab (eI .i64) p1)∧t 2=.ptr 2 v2j1 0∧t 15=.bool s15j1∧H 2=some ⟨v2j1,24,[.sl false false p0.ag.length (ab al p0.ag)],false,false,false⟩) (fun s=>s=o2) ?_ ?_
 ·rintro s15j1 t H e ⟨v2j1,Zj1⟩ rfl
  try dsimp only at hh
  try simp only[bx,seval,-Int.reduceToNat,hr1,Zj1]
  refine sp aj hh (fun _ hh =>?_) (fun _ hh =>?_)
  ·cases hh
   try simp only[bx,seval,-Int.reduceToNat,hr1,Zj1]
  ·try simp only[bx,seval,-Int.reduceToNat,hr1,Zj1]
   obtain⟨o13,ho13,hh⟩:=ae hh
   refine ax (fun s t H e=>match s with|s18b=>∃v2b:Nat,t 1=.sl false false p1.length (ab (eI .i64) p1)∧t 2=.ptr 2 v2b 0∧t 16=.sl false false p1.length (ab (eI .i64) p1)∧t 17=.int .i64 (p1.length:Int)∧t 18=.int .i64 s18b∧H 2=some ⟨v2b,24,[.sl false false p0.ag.length (ab al p0.ag)],false,false,false⟩) (fun o x t H e=>match o with|(.inl _)=>x=.exit 0|(.inr r)=>x=.ret∧eW .clean tab none [.tmp 4] ⟨t,H,e⟩=some (.clean (.bool r),none)) ho13 ?_ ?_ ?_
   ·refine⟨v2j1,?_,?_,?_,?_,?_,?_⟩
    all_goals first|rfl|(simp only[bx,seval,-Int.reduceToNat,hr1,Zj1]<;>rfl)
   ·rintro s18b t H e ⟨v2b,Zb⟩ c hh
    simp only[gD]at hh
    try simp only[bx,seval,-Int.reduceToNat,hr1,Zb]
    refine sp aj hh (fun _ hh =>?_) (fun _ hh =>?_)
    ·obtain⟨x15,hx15,hh⟩:=ae hh
     have ax15:=bF (eI .i64) hx15
     simp only[b6]at ax15
     obtain⟨r16,hr16,hh⟩:=ae hh
     try simp only[bx,seval,-Int.reduceToNat,hr1,Zb,ax15,hr16]
     refine sp aj hh (fun _ hh =>?_) (fun _ hh =>?_)
     ·cases hh
      try simp only[bx,seval,-Int.reduceToNat,hr1,Zb,ax15,hr16]
      refine pc ⟨rfl,?_⟩
      try simp only[bx,seval,-Int.reduceToNat,hr1,Zb,ax15,hr16]
     ·try simp only[bx,seval,-Int.reduceToNat,hr1,Zb,ax15,hr16]
      refine sp aj hh (fun _ hh =>?_) (fun _ hh =>?_)
      ·obtain⟨x19,hx19,hh⟩:=ae hh
       have ax19:=bF (eI .i64) hx19
       simp only[b6]at ax19
       obtain⟨x20,hx20,hh⟩:=ae hh
       have ax20:=bF al hx20
       simp only[b6]at ax20
       try simp only[bx,seval,-Int.reduceToNat,hr1,Zb,ax15,hr16,ax19,ax20]
       refine cf (by kernel_rfl) ?_
       try simp only[bx,seval,-Int.reduceToNat,hr1,Zb,ax15,hr16,ax19,ax20]
       refine sp bd hh (fun _ hh =>?_) (fun _ hh =>?_)
       ·try simp only[bx,seval,-Int.reduceToNat,hr1,Zb,ax15,hr16,ax19,ax20]
        refine sp aj hh (fun _ hh =>?_) (fun _ hh =>?_)
        ·cases hh
         try simp only[bx,seval,-Int.reduceToNat,hr1,Zb,ax15,hr16,ax19,ax20]
         refine pc ⟨rfl,?_⟩
         try simp only[bx,seval,-Int.reduceToNat,hr1,Zb,ax15,hr16,ax19,ax20]
        ·cases hh
         try simp only[bx,seval,-Int.reduceToNat,hr1,Zb,ax15,hr16,ax19,ax20]
         refine gA ?_
         refine⟨v2b,?_,?_,?_,?_,?_,?_⟩
         all_goals first|rfl|(simp only[bx,seval,-Int.reduceToNat,hr1,Zb,ax15,hr16,ax19,ax20]<;>rfl)
       ·cases hh
        try simp only[bx,seval,-Int.reduceToNat,hr1,Zb,ax15,hr16,ax19,ax20]
        refine gA ?_
        refine⟨v2b,?_,?_,?_,?_,?_,?_⟩
        all_goals first|rfl|(simp only[bx,seval,-Int.reduceToNat,hr1,Zb,ax15,hr16,ax19,ax20]<;>rfl)
      ·cases hh
       try simp only[bx,seval,-Int.reduceToNat,hr1,Zb,ax15,hr16]
       refine gA ?_
       refine⟨v2b,?_,?_,?_,?_,?_,?_⟩
       all_goals first|rfl|(simp only[bx,seval,-Int.reduceToNat,hr1,Zb,ax15,hr16]<;>rfl)
    ·cases hh
     try simp only[bx,seval,-Int.reduceToNat,hr1,Zb]
     refine iS ?_
     exact rfl
   ·rintro x t H e hx
    rcases o13 with _|rb
    ·dsimp only at hx hh
     subst hx
     cases hh
     try simp only[bx,seval,-Int.reduceToNat,hr1]
    ·dsimp only at hx hh
     obtain⟨rfl,hE⟩:=hx
     cases hh
     try simp only[aO,aG,aW,bX,bW]
     exact hE
 ·clear hh
  have hh:=ho2
  try simp only[bx,seval,-Int.reduceToNat,hr1]
  refine sp aB hh (fun _ hh =>?_) (fun _ hh =>?_)
  ·cases hh
   try simp only[bx,seval,-Int.reduceToNat,hr1]
   rw[ak]
   refine⟨_,rfl,?_⟩
   refine⟨0,?_,?_,?_,?_⟩
   all_goals first|rfl|(simp only[bx,seval,-Int.reduceToNat,hr1]<;>rfl)
  ·cases hh
   try simp only[bx,seval,-Int.reduceToNat,hr1]
   rw[ak]
   refine⟨_,rfl,?_⟩
   refine⟨0,?_,?_,?_,?_⟩
   all_goals first|rfl|(simp only[bx,seval,-Int.reduceToNat,hr1]<;>rfl)
theorem F7:bE Tryz.prog 150 rU:=bE.of (mode := .clean) tok FD mixed Tryz.func150 (by kernel_rfl) ⟨by kernel_rfl,by kernel_rfl⟩ (fun _=>Nat.le_of_ble_eq_true (by kernel_rfl)) (fun x r h=>Jy x.1 x.2 r h)
noncomputable def qR:=dI (dn (cI al)) (fun x:av=>jl x) (fun r:Bool =>.clean (.bool r))
theorem w9 (p0_0:ByteArray) (p0_1:Int) (p0_2:Int) (p0_3:Int) (p0_4:Int):qR none [.agg [.str p0_0,.int .i64 p0_1,.int .i64 p0_2,.int .i64 p0_3,.int .i64 p0_4]]=(jl (av.mk p0_0 p0_1 p0_2 p0_3 p0_4)).map fun r:Bool=>(.clean (.bool r),none):=aC _ _ _ ((av.mk p0_0 p0_1 p0_2 p0_3 p0_4))
theorem FV (p0:av) (r:Bool) (hh:jl p0=some r):aM .clean tab aU FU Tryz.f123 none [.agg [.str p0.cp,.int .i64 p0.aE,.int .i64 p0.aY,.int .i64 p0.bT,.int .i64 p0.bJ]]=some (.clean (.bool r),none):=by
 refine aq rfl Tryz.ntmps123 Tryz.results123 ?_
 unfold jl at hh
 cases hh
 try simp only[w,seval,-Int.reduceToNat]
theorem Es:bE Tryz.prog 123 qR:=bE.of (mode := .clean) tok bK.none mixed Tryz.func123 (by kernel_rfl) ⟨by kernel_rfl,by kernel_rfl⟩ (fun _=>Nat.le_of_ble_eq_true (by kernel_rfl)) (fun x r h=>FV x r h)
noncomputable def mn:=dI (cH (cI di) (cH (aI .i64) (cH Sk (cH (aI .i64) (dn (aI .i64)))))) (fun x:au×Int×ByteArray×Int×Int=>fE x.1 x.2.1 x.2.2.1 x.2.2.2.1 x.2.2.2.2) (fun r:Bool =>.clean (.bool r))
theorem mJ (p0_0:(List av)) (p1:Int) (p2:ByteArray) (p3:Int) (p4:Int):mn none [.agg [.sl false false p0_0.length (ab al p0_0)],.int .i64 p1,.str p2,.int .i64 p3,.int .i64 p4]=(fE (au.mk p0_0) p1 p2 p3 p4).map fun r:Bool=>(.clean (.bool r),none):=aC _ _ _ ((au.mk p0_0),p1,p2,p3,p4)
noncomputable def mC:Env:=(Am.ext (Am.ext aU 39 false gx) 91 false jb)
theorem DV:bK Tryz.prog mC:=((bK.none.add jg false).add nE false)
theorem dc:type_of% (ai @w<|ai @dO<|ai @gO<|@mC.eq_1):=⟨@w,@dO,@gO,@mC.eq_1⟩
theorem FW (p0:au) (p1:Int) (p2:ByteArray) (p3:Int) (p4:Int) (r:Bool) (hh:fE p0 p1 p2 p3 p4=some r):aM .clean tab mC FU Tryz.f84 none [.agg [.sl false false p0.ag.length (ab al p0.ag)],.int .i64 p1,.str p2,.int .i64 p3,.int .i64 p4]=some (.clean (.bool r),none):=by
 refine aq rfl Tryz.ntmps84 Tryz.results84 ?_
 unfold fE at hh
 obtain⟨r1,hr1,hh⟩:=ae hh
 try simp only[dc,seval,-Int.reduceToNat,hr1]
 obtain⟨o2,ho2,hh⟩:=ae hh
 refine bA 0 (fun s t H e=>match s with|s23j1=>∃v5j1:Nat,t 1=.int .i64 p1∧t 2=.str p2∧t 3=.int .i64 p3∧t 4=.int .i64 p4∧t 5=.ptr 5 v5j1 0∧t 23=.bool s23j1∧H 5=some ⟨v5j1,24,[.sl false false p0.ag.length (ab al p0.ag)],false,false,false⟩) (fun s=>s=o2) ?_ ?_
 ·rintro s23j1 t H e ⟨v5j1,Zj1⟩ rfl
  try dsimp only at hh
  try simp only[dc,seval,-Int.reduceToNat,hr1,Zj1]
  refine sp aj hh (fun _ hh =>?_) (fun _ hh =>?_)
  ·cases hh
   try simp only[dc,seval,-Int.reduceToNat,hr1,Zj1]
  ·obtain⟨x4,hx4,hh⟩:=ae hh
   have ax4:=bF al hx4
   simp only[b6]at ax4
   try simp only[dc,seval,-Int.reduceToNat,hr1,Zj1,ax4]
   refine sp bd hh (fun _ hh =>?_) (fun _ hh =>?_)
   ·try simp only[dc,seval,-Int.reduceToNat,hr1,Zj1,ax4]
    refine sp bd hh (fun _ hh =>?_) (fun _ hh =>?_)
    ·cases hh
     try simp only[dc,seval,-Int.reduceToNat,hr1,Zj1,ax4]
    ·cases hh
     try simp only[dc,seval,-Int.reduceToNat,hr1,Zj1,ax4]
   ·cases hh
    try simp only[dc,seval,-Int.reduceToNat,hr1,Zj1,ax4]
 ·clear hh
  have hh:=ho2
  try simp only[dc,seval,-Int.reduceToNat,hr1]
  refine sp aB hh (fun _ hh =>?_) (fun _ hh =>?_)
  ·cases hh
   try simp only[dc,seval,-Int.reduceToNat,hr1]
   rw[ak]
   refine⟨_,rfl,?_⟩
   refine⟨0,?_,?_,?_,?_,?_,?_,?_⟩
   all_goals first|rfl|(simp only[dc,seval,-Int.reduceToNat,hr1]<;>rfl)
  ·obtain⟨r8,hr8,hh⟩:=ae hh
   cases hh
   try simp only[dc,seval,-Int.reduceToNat,hr1,hr8]
   rw[ak]
   refine⟨_,rfl,?_⟩
   refine⟨0,?_,?_,?_,?_,?_,?_,?_⟩
   all_goals first|rfl|(simp only[dc,seval,-Int.reduceToNat,hr1,hr8]<;>rfl)
theorem vd:bE Tryz.prog 84 mn:=bE.of (mode := .clean) tok DV mixed Tryz.func84 (by kernel_rfl) ⟨by kernel_rfl,by kernel_rfl⟩ (fun _=>Nat.le_of_ble_eq_true (by kernel_rfl)) (fun x r h=>FW x.1 x.2.1 x.2.2.1 x.2.2.2.1 x.2.2.2.2 r h)
noncomputable def rT:=dI (cH (cI di) (cH (eZ (eI .i64)) (cH (aI .i64) (cH (aI .i64) (cH Sk (cH (aI .i64) (dn (aI .i64)))))))) (fun x:au×(List Int)×Int×Int×ByteArray×Int×Int=>iy x.1 x.2.1 x.2.2.1 x.2.2.2.1 x.2.2.2.2.1 x.2.2.2.2.2.1 x.2.2.2.2.2.2) (fun r:Bool =>.clean (.bool r))
theorem zk (p0_0:(List av)) (p1:(List Int)) (p2:Int) (p3:Int) (p4:ByteArray) (p5:Int) (p6:Int):rT none [.agg [.sl false false p0_0.length (ab al p0_0)],.sl false false p1.length (ab (eI .i64) p1),.int .i64 p2,.int .i64 p3,.str p4,.int .i64 p5,.int .i64 p6]=(iy (au.mk p0_0) p1 p2 p3 p4 p5 p6).map fun r:Bool=>(.clean (.bool r),none):=aC _ _ _ ((au.mk p0_0),p1,p2,p3,p4,p5,p6)
noncomputable def nZ:Env:=(Am.ext (Am.ext (Am.ext aU 84 false mn) 123 false qR) 150 false rU)
theorem FC:bK Tryz.prog nZ:=(((bK.none.add vd false).add Es false).add F7 false)
theorem eU:type_of% (ai @w<|ai @mJ<|ai @w9<|ai @zl<|@nZ.eq_1):=⟨@w,@mJ,@w9,@zl,@nZ.eq_1⟩
theorem Jw (p0:au) (p1:(List Int)) (p2:Int) (p3:Int) (p4:ByteArray) (p5:Int) (p6:Int) (r:Bool) (hh:iy p0 p1 p2 p3 p4 p5 p6=some r):aM .clean tab nZ FU Tryz.f108 none [.agg [.sl false false p0.ag.length (ab al p0.ag)],.sl false false p1.length (ab (eI .i64) p1),.int .i64 p2,.int .i64 p3,.str p4,.int .i64 p5,.int .i64 p6]=some (.clean (.bool r),none):=by
 refine aq rfl Tryz.ntmps108 Tryz.results108 ?_
 unfold iy at hh
 obtain⟨r1,hr1,hh⟩:=ae hh
 try simp only[eU,seval,-Int.reduceToNat,hr1]
 refine sp aj hh (fun _ hh =>?_) (fun _ hh =>?_)
 ·cases hh
  try simp only[eU,seval,-Int.reduceToNat,hr1]
 ·obtain⟨x3,hx3,hh⟩:=ae hh
  have ax3:=bF (eI .i64) hx3
  simp only[b6]at ax3
  obtain⟨x4,hx4,hh⟩:=ae hh
  have ax4:=bF al hx4
  simp only[b6]at ax4
  obtain⟨x5,hx5,hh⟩:=ae hh
  have ax5:=bF (eI .i64) hx5
  simp only[b6]at ax5
  try simp only[eU,seval,-Int.reduceToNat,hr1,ax3,ax4,ax5]
  refine cf (by kernel_rfl) ?_
  try simp only[eU,seval,-Int.reduceToNat,hr1,ax3,ax4,ax5]
  refine sp bd hh (fun _ hh =>?_) (fun _ hh =>?_)
  ·try simp only[eU,seval,-Int.reduceToNat,hr1,ax3,ax4,ax5]
   refine sp bd hh (fun _ hh =>?_) (fun _ hh =>?_)
   ·obtain⟨x8,hx8,hh⟩:=ae hh
    have ax8:=bF al hx8
    simp only[b6]at ax8
    obtain⟨r9,hr9,hh⟩:=ae hh
    try simp only[eU,seval,-Int.reduceToNat,hr1,ax3,ax4,ax5,ax8,hr9]
    refine sp bd hh (fun _ hh =>?_) (fun _ hh =>?_)
    ·obtain⟨r11,hr11,hh⟩:=ae hh
     cases hh
     try simp only[eU,seval,-Int.reduceToNat,hr1,ax3,ax4,ax5,ax8,hr9,hr11]
    ·cases hh
     try simp only[eU,seval,-Int.reduceToNat,hr1,ax3,ax4,ax5,ax8,hr9]
   ·cases hh
    try simp only[eU,seval,-Int.reduceToNat,hr1,ax3,ax4,ax5]
  ·cases hh
   try simp only[eU,seval,-Int.reduceToNat,hr1,ax3,ax4,ax5]
theorem F6:bE Tryz.prog 108 rT:=bE.of (mode := .clean) tok FC mixed Tryz.func108 (by kernel_rfl) ⟨by kernel_rfl,by kernel_rfl⟩ (fun _=>Nat.le_of_ble_eq_true (by kernel_rfl)) (fun x r h=>Jw x.1 x.2.1 x.2.2.1 x.2.2.2.1 x.2.2.2.2.1 x.2.2.2.2.2.1 x.2.2.2.2.2.2 r h)
noncomputable def jD:=dI (cH (cI Ci) (dn (cI aR))) (fun x:j9×aF=>ep x.1 x.2) (fun r:Bool =>.clean (.bool r))
theorem nJ (p0_0:(List av)) (p0_1:Int) (p0_2:Int) (p0_3:Int) (p1_0:Int) (p1_1:(List Int)) (p1_2:ByteArray) (p1_3:Int) (p1_4:Int):jD none [.agg [.sl false false p0_0.length (ab al p0_0),.int .i64 p0_1,.int .i64 p0_2,.int .i64 p0_3],.agg [.int .i64 p1_0,.sl false false p1_1.length (ab (eI .i64) p1_1),.str p1_2,.int .i64 p1_3,.int .i64 p1_4]]=(ep (j9.mk (au.mk p0_0) p0_1 p0_2 p0_3) (aF.mk p1_0 p1_1 p1_2 p1_3 p1_4)).map fun r:Bool=>(.clean (.bool r),none):=aC _ _ _ ((j9.mk (au.mk p0_0) p0_1 p0_2 p0_3),(aF.mk p1_0 p1_1 p1_2 p1_3 p1_4))
noncomputable def gI:Env:=(Am.ext aU 108 false rT)
theorem uP:bK Tryz.prog gI:=(bK.none.add F6 false)
theorem cm:type_of% (ai @w<|ai @zk<|@gI.eq_1):=⟨@w,@zk,@gI.eq_1⟩
theorem wy (p0:j9) (p1:aF) (r:Bool) (hh:ep p0 p1=some r):aM .clean tab gI FU Tryz.f73 none [.agg [.sl false false p0.Xd.ag.length (ab al p0.Xd.ag),.int .i64 p0.Ac,.int .i64 p0.vF,.int .i64 p0.vE],.agg [.int .i64 p1.cg,.sl false false p1.cP.length (ab (eI .i64) p1.cP),.str p1.cp,.int .i64 p1.aE,.int .i64 p1.aY]]=some (.clean (.bool r),none):=by
 refine aq rfl Tryz.ntmps73 Tryz.results73 ?_
 unfold ep at hh
 try simp only[cm,seval,-Int.reduceToNat]
 refine sp tw hh (fun _ hh =>?_) (fun _ hh =>?_)
 ·obtain⟨x2,hx2,hh⟩:=ae hh
  have ax2:=bF (eI .i64) hx2
  simp only[b6]at ax2
  try simp only[cm,seval,-Int.reduceToNat,ax2]
  refine sp tw hh (fun _ hh =>?_) (fun _ hh =>?_)
  ·obtain⟨x4,hx4,hh⟩:=ae hh
   have ax4:=bF (eI .i64) hx4
   simp only[b6]at ax4
   try simp only[cm,seval,-Int.reduceToNat,ax2,ax4]
   refine sp tw hh (fun _ hh =>?_) (fun _ hh =>?_)
   ·obtain⟨r6,hr6,hh⟩:=ae hh
    try simp only[cm,seval,-Int.reduceToNat,ax2,ax4,hr6]
    refine cf (by kernel_rfl) ?_
    cases hh
    try simp only[cm,seval,-Int.reduceToNat,ax2,ax4,hr6]
   ·try simp only[cm,seval,-Int.reduceToNat,ax2,ax4]
    refine cf (by kernel_rfl) ?_
    cases hh
    try simp only[cm,seval,-Int.reduceToNat,ax2,ax4]
  ·try simp only[cm,seval,-Int.reduceToNat,ax2]
   refine cf (by kernel_rfl) ?_
   cases hh
   try simp only[cm,seval,-Int.reduceToNat,ax2]
 ·try simp only[cm,seval,-Int.reduceToNat]
  refine cf (by kernel_rfl) ?_
  cases hh
  try simp only[cm,seval,-Int.reduceToNat]
theorem uZ:bE Tryz.prog 73 jD:=bE.of (mode := .clean) tok uP mixed Tryz.func73 (by kernel_rfl) ⟨by kernel_rfl,by kernel_rfl⟩ (fun _=>Nat.le_of_ble_eq_true (by kernel_rfl)) (fun x r h=>wy x.1 x.2 r h)
noncomputable def Cv:=dI (dn (aI .i64)) (fun x:Int=>uu x) (fun r:aw =>.clean (.agg [.int .i64 r.ah,.sl false false r.aa.length (ab (eI .i64) r.aa)]))
theorem No (p0:Int):Cv none [.int .i64 p0]=(uu p0).map fun r:aw=>(.clean (.agg [.int .i64 r.ah,.sl false false r.aa.length (ab (eI .i64) r.aa)]),none):=aC _ _ _ (p0)
noncomputable def yL:Env:=(Am.ext aU 126 false kS)
theorem SH:bK Tryz.prog yL:=(bK.none.add qV false)
theorem gw:type_of% (ai @w<|ai @jt<|@yL.eq_1):=⟨@w,@jt,@yL.eq_1⟩
theorem Vc (p0:Int) (r:aw) (hh:uu p0=some r):aM .clean tab yL FU Tryz.f109 none [.int .i64 p0]=some (.clean (.agg [.int .i64 r.ah,.sl false false r.aa.length (ab (eI .i64) r.aa)]),none):=by
 refine aq rfl Tryz.ntmps109 Tryz.results109 ?_
 unfold uu at hh
 try simp only[gw,seval,-Int.reduceToNat]
 obtain⟨o1,ho1,hh⟩:=ae hh
 refine ns 0 (fun s t H e=>match s with|(s3j1,s4j1)=>∃v2j1:Nat,t 2=.ptr 2 v2j1 0∧t 3=.int .i64 s3j1∧t 4=.int .u64 s4j1∧H 2=some ⟨v2j1,49,[.int .i64 0,.sl true true 0 []],false,false,false⟩) (fun s=>s=o1) ?_ ?_
 ·rintro⟨s3j1,s4j1⟩ t H e ⟨v2j1,Zj1⟩ rfl
  try dsimp only at hh
  try simp only[gw,seval,-Int.reduceToNat,Zj1]
  obtain⟨o7,ho7,hh⟩:=ae hh
  refine ax (fun s t H e=>match s with|(s4b,l5b)=>∃v2b:Nat,∃v5b:Nat,t 2=.ptr 2 v2b 0∧t 3=.int .i64 s3j1∧t 4=.int .u64 s4b∧t 5=.buf 5 v5b 1 0 (l5b).length∧H 2=some ⟨v2b,49,[.int .i64 0,.sl true true 0 []],false,false,false⟩∧H 5=some ⟨v5b,3,ab (eI .i64) l5b,false,true,false⟩) (fun o x t H e=>match o with|l5bx=>x=.exit 0∧∃v2bx:Nat,∃v5bx:Nat,t 2=.ptr 2 v2bx 0∧t 3=.int .i64 s3j1∧t 5=.buf 5 v5bx 1 0 (l5bx).length∧H 2=some ⟨v2bx,49,[.int .i64 0,.sl true true 0 []],false,false,false⟩∧H 5=some ⟨v5bx,3,ab (eI .i64) l5bx,false,true,false⟩) ho7 ?_ ?_ ?_
  ·refine⟨v2j1,e,?_,?_,?_,?_,?_,?_⟩
   all_goals first|rfl|(simp only[gw,seval,-Int.reduceToNat,Zj1]<;>rfl)
  ·rintro⟨s4b,l5b⟩ t H e ⟨v2b,v5b,Zb⟩ c hh
   simp only[vw]at hh
   try simp only[gw,seval,-Int.reduceToNat,Zb]
   refine sp aj hh (fun _ hh =>?_) (fun _ hh =>?_)
   ·obtain⟨x9,hx9,hh⟩:=ae hh
    obtain⟨q10a,q10b,q10c,q10d⟩:=fa (eI .i64) hx9
    simp only[b6]at q10b
    obtain⟨x11,hx11,hh⟩:=ae hh
    have q12:=tq hx11
    cases hh
    try simp only[gw,seval,-Int.reduceToNat,Zb,q10a,q10b,q10c,q10d,q12]
    refine gA ?_
    refine⟨v2b,e+1,?_,?_,?_,?_,?_,?_⟩
    all_goals first|rfl|(simp only[gw,seval,-Int.reduceToNat,Zb,q10a,q10b,q10c,q10d,q12]<;>rfl)
   ·cases hh
    try simp only[gw,seval,-Int.reduceToNat,Zb]
    refine iS ?_
    refine⟨rfl,⟨v2b,v5b,?_,?_,?_,?_,?_⟩⟩
    all_goals first|rfl|(simp only[gw,seval,-Int.reduceToNat,Zb]<;>rfl)
  ·rintro x t H e hx
   obtain⟨l5bx,rfl⟩:∃z,z=o7:=⟨_,rfl⟩
   dsimp only at hx hh
   obtain⟨rfl,⟨v2bx,v5bx,Zbx⟩⟩:=hx
   obtain⟨r13,hr13,hh⟩:=ae hh
   cases hh
   try simp only[gw,seval,-Int.reduceToNat,Zbx,hr13]
 ·clear hh
  have hh:=ho1
  try simp only[gw,seval,-Int.reduceToNat]
  refine sp aj hh (fun _ hh =>?_) (fun _ hh =>?_)
  ·cases hh
   try simp only[gw,seval,-Int.reduceToNat]
   rw[ak]
   refine⟨_,rfl,?_⟩
   refine⟨0,?_,?_,?_,?_⟩
   all_goals first|rfl|(simp only[gw,seval,-Int.reduceToNat]<;>rfl)
  ·cases hh
   try simp only[gw,seval,-Int.reduceToNat]
   rw[ak]
   refine⟨_,rfl,?_⟩
   refine⟨0,?_,?_,?_,?_⟩
   all_goals first|rfl|(simp only[gw,seval,-Int.reduceToNat]<;>rfl)
theorem Tb:bE Tryz.prog 109 Cv:=bE.of (mode := .clean) tok SH mixed Tryz.func109 (by kernel_rfl) ⟨by kernel_rfl,by kernel_rfl⟩ (fun _=>Nat.le_of_ble_eq_true (by kernel_rfl)) (fun x r h=>Vc x r h)
noncomputable def xn:=dI (dn (aI .i64)) (fun x:Int=>oZ x) (fun r:aQ =>.clean (.agg [.int .i64 r.cn.ah,.sl false false r.cn.aa.length (ab (eI .i64) r.cn.aa),.int .i64 r.cl.ah,.sl false false r.cl.aa.length (ab (eI .i64) r.cl.aa)]))
theorem EC (p0:Int):xn none [.int .i64 p0]=(oZ p0).map fun r:aQ=>(.clean (.agg [.int .i64 r.cn.ah,.sl false false r.cn.aa.length (ab (eI .i64) r.cn.aa),.int .i64 r.cl.ah,.sl false false r.cl.aa.length (ab (eI .i64) r.cl.aa)]),none):=aC _ _ _ (p0)
noncomputable def so:Env:=(Am.ext aU 109 false Cv)
theorem Lw:bK Tryz.prog so:=(bK.none.add Tb false)
theorem Qh:type_of% (ai @w<|ai @No<|@so.eq_1):=⟨@w,@No,@so.eq_1⟩
theorem OZ (p0:Int) (r:aQ) (hh:oZ p0=some r):aM .clean tab so FU Tryz.f74 none [.int .i64 p0]=some (.clean (.agg [.int .i64 r.cn.ah,.sl false false r.cn.aa.length (ab (eI .i64) r.cn.aa),.int .i64 r.cl.ah,.sl false false r.cl.aa.length (ab (eI .i64) r.cl.aa)]),none):=by
 refine aq rfl Tryz.ntmps74 Tryz.results74 ?_
 unfold oZ at hh
 obtain⟨r1,hr1,hh⟩:=ae hh
 obtain⟨r2,hr2,hh⟩:=ae hh
 cases hh
 try simp only[Qh,seval,-Int.reduceToNat,hr1,hr2]
theorem M4:bE Tryz.prog 74 xn:=bE.of (mode := .clean) tok Lw mixed Tryz.func74 (by kernel_rfl) ⟨by kernel_rfl,by kernel_rfl⟩ (fun _=>Nat.le_of_ble_eq_true (by kernel_rfl)) (fun x r h=>OZ x r h)
noncomputable def xz:=dI (cH (cI sk) (dn (cI jd))) (fun x:dt×aQ=>lJ x.1 x.2) (fun r:Bool =>.clean (.bool r))
theorem EL (p0_0:Int) (p0_1:(List Int)) (p0_2:Int) (p0_3:(List Int)) (p0_4:Int) (p0_5:(List Int)) (p0_6:Int) (p0_7:(List Int)) (p1_0:Int) (p1_1:(List Int)) (p1_2:Int) (p1_3:(List Int)):xz none [.agg [.int .i64 p0_0,.sl false false p0_1.length (ab (eI .i64) p0_1),.int .i64 p0_2,.sl false false p0_3.length (ab (eI .i64) p0_3),.int .i64 p0_4,.sl false false p0_5.length (ab (eI .i64) p0_5),.int .i64 p0_6,.sl false false p0_7.length (ab (eI .i64) p0_7)],.agg [.int .i64 p1_0,.sl false false p1_1.length (ab (eI .i64) p1_1),.int .i64 p1_2,.sl false false p1_3.length (ab (eI .i64) p1_3)]]=(lJ (dt.mk (aQ.mk (aw.mk p0_0 p0_1) (aw.mk p0_2 p0_3)) (aQ.mk (aw.mk p0_4 p0_5) (aw.mk p0_6 p0_7))) (aQ.mk (aw.mk p1_0 p1_1) (aw.mk p1_2 p1_3))).map fun r:Bool=>(.clean (.bool r),none):=aC _ _ _ ((dt.mk (aQ.mk (aw.mk p0_0 p0_1) (aw.mk p0_2 p0_3)) (aQ.mk (aw.mk p0_4 p0_5) (aw.mk p0_6 p0_7))),(aQ.mk (aw.mk p1_0 p1_1) (aw.mk p1_2 p1_3)))
noncomputable def sF:Env:=(Am.ext (Am.ext (Am.ext aU 30 false nL) 57 false kU) 58 false kT)
theorem LP:bK Tryz.prog sF:=(((bK.none.add wX false).add qW false).add tL false)
theorem kj:type_of% (ai @w<|ai @oq<|ai @ju<|ai @lz<|@sF.eq_1):=⟨@w,@oq,@ju,@lz,@sF.eq_1⟩
theorem Pg (p0:dt) (p1:aQ) (r:Bool) (hh:lJ p0 p1=some r):aM .clean tab sF FU Tryz.f31 none [.agg [.int .i64 p0.bq.cn.ah,.sl false false p0.bq.cn.aa.length (ab (eI .i64) p0.bq.cn.aa),.int .i64 p0.bq.cl.ah,.sl false false p0.bq.cl.aa.length (ab (eI .i64) p0.bq.cl.aa),.int .i64 p0.aT.cn.ah,.sl false false p0.aT.cn.aa.length (ab (eI .i64) p0.aT.cn.aa),.int .i64 p0.aT.cl.ah,.sl false false p0.aT.cl.aa.length (ab (eI .i64) p0.aT.cl.aa)],.agg [.int .i64 p1.cn.ah,.sl false false p1.cn.aa.length (ab (eI .i64) p1.cn.aa),.int .i64 p1.cl.ah,.sl false false p1.cl.aa.length (ab (eI .i64) p1.cl.aa)]]=some (.clean (.bool r),none):=by
 refine aq rfl Tryz.ntmps31 Tryz.results31 ?_
 unfold lJ at hh
 obtain⟨r1,hr1,hh⟩:=ae hh
 try simp only[kj,seval,-Int.reduceToNat,hr1]
 refine sp bd hh (fun _ hh =>?_) (fun _ hh =>?_)
 ·obtain⟨r3,hr3,hh⟩:=ae hh
  try simp only[kj,seval,-Int.reduceToNat,hr1,hr3]
  refine sp bd hh (fun _ hh =>?_) (fun _ hh =>?_)
  ·obtain⟨r5,hr5,hh⟩:=ae hh
   try simp only[kj,seval,-Int.reduceToNat,hr1,hr3,hr5]
   refine sp bd hh (fun _ hh =>?_) (fun _ hh =>?_)
   ·obtain⟨r7,hr7,hh⟩:=ae hh
    cases hh
    try simp only[kj,seval,-Int.reduceToNat,hr1,hr3,hr5,hr7]
   ·cases hh
    try simp only[kj,seval,-Int.reduceToNat,hr1,hr3,hr5]
  ·cases hh
   try simp only[kj,seval,-Int.reduceToNat,hr1,hr3]
 ·cases hh
  try simp only[kj,seval,-Int.reduceToNat,hr1]
theorem Ng:bE Tryz.prog 31 xz:=bE.of (mode := .clean) tok LP mixed Tryz.func31 (by kernel_rfl) ⟨by kernel_rfl,by kernel_rfl⟩ (fun _=>Nat.le_of_ble_eq_true (by kernel_rfl)) (fun x r h=>Pg x.1 x.2 r h)
noncomputable def ig:=dI (cH (cI aA) (cH (TR (eI .i64)) (dn (TR jd)))) (fun x:az×Int×aQ=>dX x.1 x.2.1 x.2.2) (fun r:Bool =>.clean (.bool r))
theorem ly (p0_0:Int) (p0_1:Int) (p0_2:(List Int)) (p0_3:Int) (p0_4:(List Int)) (p0_5:Int) (p0_6:(List Int)) (p0_7:Int) (p0_8:(List Int)) (p1:Int) (p2_0:Int) (p2_1:(List Int)) (p2_2:Int) (p2_3:(List Int)):ig none [.agg [.int .i64 p0_0,.int .i64 p0_1,.sl false false p0_2.length (ab (eI .i64) p0_2),.int .i64 p0_3,.sl false false p0_4.length (ab (eI .i64) p0_4),.int .i64 p0_5,.sl false false p0_6.length (ab (eI .i64) p0_6),.int .i64 p0_7,.sl false false p0_8.length (ab (eI .i64) p0_8)],.ip [.int .i64 p1],.ip [.int .i64 p2_0,.sl false false p2_1.length (ab (eI .i64) p2_1),.int .i64 p2_2,.sl false false p2_3.length (ab (eI .i64) p2_3)]]=(dX (az.mk p0_0 (dt.mk (aQ.mk (aw.mk p0_1 p0_2) (aw.mk p0_3 p0_4)) (aQ.mk (aw.mk p0_5 p0_6) (aw.mk p0_7 p0_8)))) p1 (aQ.mk (aw.mk p2_0 p2_1) (aw.mk p2_2 p2_3))).map fun r:Bool=>(.clean (.bool r),none):=aC _ _ _ ((az.mk p0_0 (dt.mk (aQ.mk (aw.mk p0_1 p0_2) (aw.mk p0_3 p0_4)) (aQ.mk (aw.mk p0_5 p0_6) (aw.mk p0_7 p0_8)))),p1,(aQ.mk (aw.mk p2_0 p2_1) (aw.mk p2_2 p2_3)))
noncomputable def fp:Env:=(Am.ext aU 31 false xz)
theorem rm:bK Tryz.prog fp:=(bK.none.add Ng false)
theorem iA:type_of% (ai @w<|ai @EL<|@fp.eq_1):=⟨@w,@EL,@fp.eq_1⟩
theorem sJ (p0:az) (p1:Int) (p2:aQ) (r:Bool) (hh:dX p0 p1 p2=some r):aM .clean tab fp FU Tryz.f75 none [.agg [.int .i64 p0.cg,.int .i64 p0.bz.bq.cn.ah,.sl false false p0.bz.bq.cn.aa.length (ab (eI .i64) p0.bz.bq.cn.aa),.int .i64 p0.bz.bq.cl.ah,.sl false false p0.bz.bq.cl.aa.length (ab (eI .i64) p0.bz.bq.cl.aa),.int .i64 p0.bz.aT.cn.ah,.sl false false p0.bz.aT.cn.aa.length (ab (eI .i64) p0.bz.aT.cn.aa),.int .i64 p0.bz.aT.cl.ah,.sl false false p0.bz.aT.cl.aa.length (ab (eI .i64) p0.bz.aT.cl.aa)],.ip [.int .i64 p1],.ip [.int .i64 p2.cn.ah,.sl false false p2.cn.aa.length (ab (eI .i64) p2.cn.aa),.int .i64 p2.cl.ah,.sl false false p2.cl.aa.length (ab (eI .i64) p2.cl.aa)]]=some (.clean (.bool r),none):=by
 refine aq rfl Tryz.ntmps75 Tryz.results75 ?_
 unfold dX at hh
 try simp only[iA,seval,-Int.reduceToNat]
 refine sp bd hh (fun _ hh =>?_) (fun _ hh =>?_)
 ·obtain⟨r2,hr2,hh⟩:=ae hh
  cases hh
  try simp only[iA,seval,-Int.reduceToNat,hr2]
 ·cases hh
  try simp only[iA,seval,-Int.reduceToNat]
theorem rC:bE Tryz.prog 75 ig:=bE.of (mode := .clean) tok rm mixed Tryz.func75 (by kernel_rfl) ⟨by kernel_rfl,by kernel_rfl⟩ (fun _=>Nat.le_of_ble_eq_true (by kernel_rfl)) (fun x r h=>sJ x.1 x.2.1 x.2.2 r h)
noncomputable def cV:=dI (cH (eZ aR) (dn (TQ 72 0 (dn (TR (eI .i64)))))) (fun x:(List aF)×(Int)=>bp x.1 x.2) (fun r:Int =>.clean (.int .i64 r))
theorem ew (p0:(List aF)) (p1c0:Int):cV none [.sl false false p0.length (ab aR p0),.clo 72 0 [.ip [.int .i64 p1c0]]]=(bp p0 p1c0).map fun r:Int=>(.clean (.int .i64 r),none):=aC _ _ _ (p0,(p1c0))
noncomputable def cr:Env:=(Am.ext aU 72 false ie)
theorem gT:bK Tryz.prog cr:=(bK.none.add rB false)
theorem aH:type_of% (ai @w<|ai @lx<|@cr.eq_1):=⟨@w,@lx,@cr.eq_1⟩
theorem im (p0:(List aF)) (p1c0:Int) (r:Int) (hh:bp p0 p1c0=some r):aM .clean tab cr FU Tryz.f71 none [.sl false false p0.length (ab aR p0),.clo 72 0 [.ip [.int .i64 p1c0]]]=some (.clean (.int .i64 r),none):=by
 refine aq rfl Tryz.ntmps71 Tryz.results71 ?_
 unfold bp at hh
 try simp only[aH,seval,-Int.reduceToNat]
 obtain⟨o5,ho5,hh⟩:=ae hh
 refine ax (fun s t H e=>match s with|s8a=>t 0=.sl false false p0.length (ab aR p0)∧t 1=.clo 72 0 [.ip [.int .i64 p1c0]]∧t 7=.int .i64 (p0.length:Int)∧t 8=.int .i64 s8a) (fun o x t H e=>match o with|(.inl _)=>x=.exit 0|(.inr r)=>x=.ret∧eW .clean tab none [.tmp 4] ⟨t,H,e⟩=some (.clean (.int .i64 r),none)) ho5 ?_ ?_ ?_
 ·refine⟨?_,?_,?_,?_⟩
  all_goals first|rfl|(simp only[aH,seval,-Int.reduceToNat]<;>rfl)
 ·rintro s8a t H e Za c hh
  simp only[ck]at hh
  try simp only[aH,seval,-Int.reduceToNat,Za]
  refine sp aj hh (fun _ hh =>?_) (fun _ hh =>?_)
  ·obtain⟨x7,hx7,hh⟩:=ae hh
   have ax7:=bF aR hx7
   simp only[b6]at ax7
   obtain⟨r8,hr8,hh⟩:=ae hh
   try simp only[aH,seval,-Int.reduceToNat,Za,ax7,hr8]
   refine sp aj hh (fun _ hh =>?_) (fun _ hh =>?_)
   ·cases hh
    try simp only[aH,seval,-Int.reduceToNat,Za,ax7,hr8]
    refine pc ⟨rfl,?_⟩
    try simp only[aH,seval,-Int.reduceToNat,Za,ax7,hr8]
   ·cases hh
    try simp only[aH,seval,-Int.reduceToNat,Za,ax7,hr8]
    refine gA ?_
    refine⟨?_,?_,?_,?_⟩
    all_goals first|rfl|(simp only[aH,seval,-Int.reduceToNat,Za,ax7,hr8]<;>rfl)
  ·cases hh
   try simp only[aH,seval,-Int.reduceToNat,Za]
   refine iS ?_
   exact rfl
 ·rintro x t H e hx
  rcases o5 with _|ra
  ·dsimp only at hx hh
   subst hx
   cases hh
   try simp only[aH,seval,-Int.reduceToNat]
  ·dsimp only at hx hh
   obtain⟨rfl,hE⟩:=hx
   cases hh
   try simp only[aO,aG,aW,bX,bW]
   exact hE
theorem gV:bE Tryz.prog 71 cV:=bE.of (mode := .clean) tok gT mixed Tryz.func71 (by kernel_rfl) ⟨by kernel_rfl,by kernel_rfl⟩ (fun _=>Nat.le_of_ble_eq_true (by kernel_rfl)) (fun x r h=>im x.1 x.2 r h)
noncomputable def dp:=dI (cH (eZ aA) (dn (TQ 75 0 (cH (TR (eI .i64)) (dn (TR jd)))))) (fun x:(List az)×(Int×aQ)=>bP x.1 x.2.1 x.2.2) (fun r:Int =>.clean (.int .i64 r))
theorem eQ (p0:(List az)) (p1c0:Int) (p1c1_0:Int) (p1c1_1:(List Int)) (p1c1_2:Int) (p1c1_3:(List Int)):dp none [.sl false false p0.length (ab aA p0),.clo 75 0 [.ip [.int .i64 p1c0],.ip [.int .i64 p1c1_0,.sl false false p1c1_1.length (ab (eI .i64) p1c1_1),.int .i64 p1c1_2,.sl false false p1c1_3.length (ab (eI .i64) p1c1_3)]]]=(bP p0 p1c0 (aQ.mk (aw.mk p1c1_0 p1c1_1) (aw.mk p1c1_2 p1c1_3))).map fun r:Int=>(.clean (.int .i64 r),none):=aC _ _ _ (p0,(p1c0,(aQ.mk (aw.mk p1c1_0 p1c1_1) (aw.mk p1c1_2 p1c1_3))))
noncomputable def cA:Env:=(Am.ext aU 75 false ig)
theorem iR:bK Tryz.prog cA:=(bK.none.add rC false)
theorem aP:type_of% (ai @w<|ai @ly<|@cA.eq_1):=⟨@w,@ly,@cA.eq_1⟩
theorem iY (p0:(List az)) (p1c0:Int) (p1c1:aQ) (r:Int) (hh:bP p0 p1c0 p1c1=some r):aM .clean tab cA FU Tryz.f68 none [.sl false false p0.length (ab aA p0),.clo 75 0 [.ip [.int .i64 p1c0],.ip [.int .i64 p1c1.cn.ah,.sl false false p1c1.cn.aa.length (ab (eI .i64) p1c1.cn.aa),.int .i64 p1c1.cl.ah,.sl false false p1c1.cl.aa.length (ab (eI .i64) p1c1.cl.aa)]]]=some (.clean (.int .i64 r),none):=by
 refine aq rfl Tryz.ntmps68 Tryz.results68 ?_
 unfold bP at hh
 try simp only[aP,seval,-Int.reduceToNat]
 obtain⟨o5,ho5,hh⟩:=ae hh
 refine ax (fun s t H e=>match s with|s8a=>t 0=.sl false false p0.length (ab aA p0)∧t 1=.clo 75 0 [.ip [.int .i64 p1c0],.ip [.int .i64 p1c1.cn.ah,.sl false false p1c1.cn.aa.length (ab (eI .i64) p1c1.cn.aa),.int .i64 p1c1.cl.ah,.sl false false p1c1.cl.aa.length (ab (eI .i64) p1c1.cl.aa)]]∧t 7=.int .i64 (p0.length:Int)∧t 8=.int .i64 s8a) (fun o x t H e=>match o with|(.inl _)=>x=.exit 0|(.inr r)=>x=.ret∧eW .clean tab none [.tmp 4] ⟨t,H,e⟩=some (.clean (.int .i64 r),none)) ho5 ?_ ?_ ?_
 ·refine⟨?_,?_,?_,?_⟩
  all_goals first|rfl|(simp only[aP,seval,-Int.reduceToNat]<;>rfl)
 ·rintro s8a t H e Za c hh
  simp only[cw]at hh
  try simp only[aP,seval,-Int.reduceToNat,Za]
  refine sp aj hh (fun _ hh =>?_) (fun _ hh =>?_)
  ·obtain⟨x7,hx7,hh⟩:=ae hh
   have ax7:=bF aA hx7
   simp only[b6]at ax7
   obtain⟨r8,hr8,hh⟩:=ae hh
   try simp only[aP,seval,-Int.reduceToNat,Za,ax7,hr8]
   refine sp aj hh (fun _ hh =>?_) (fun _ hh =>?_)
   ·cases hh
    try simp only[aP,seval,-Int.reduceToNat,Za,ax7,hr8]
    refine pc ⟨rfl,?_⟩
    try simp only[aP,seval,-Int.reduceToNat,Za,ax7,hr8]
   ·cases hh
    try simp only[aP,seval,-Int.reduceToNat,Za,ax7,hr8]
    refine gA ?_
    refine⟨?_,?_,?_,?_⟩
    all_goals first|rfl|(simp only[aP,seval,-Int.reduceToNat,Za,ax7,hr8]<;>rfl)
  ·cases hh
   try simp only[aP,seval,-Int.reduceToNat,Za]
   refine iS ?_
   exact rfl
 ·rintro x t H e hx
  rcases o5 with _|ra
  ·dsimp only at hx hh
   subst hx
   cases hh
   try simp only[aP,seval,-Int.reduceToNat]
  ·dsimp only at hx hh
   obtain⟨rfl,hE⟩:=hx
   cases hh
   try simp only[aO,aG,aW,bX,bW]
   exact hE
theorem iT:bE Tryz.prog 68 dp:=bE.of (mode := .clean) tok iR mixed Tryz.func68 (by kernel_rfl) ⟨by kernel_rfl,by kernel_rfl⟩ (fun _=>Nat.le_of_ble_eq_true (by kernel_rfl)) (fun x r h=>iY x.1 x.2.1 x.2.2 r h)
noncomputable def cU:=dI (cH (eZ aA) (dn (TQ 75 0 (cH (TR (eI .i64)) (dn (TR jd)))))) (fun x:(List az)×(Int×aQ)=>bo x.1 x.2.1 x.2.2) (fun r:Bool =>.clean (.bool r))
theorem eu (p0:(List az)) (p1c0:Int) (p1c1_0:Int) (p1c1_1:(List Int)) (p1c1_2:Int) (p1c1_3:(List Int)):cU none [.sl false false p0.length (ab aA p0),.clo 75 0 [.ip [.int .i64 p1c0],.ip [.int .i64 p1c1_0,.sl false false p1c1_1.length (ab (eI .i64) p1c1_1),.int .i64 p1c1_2,.sl false false p1c1_3.length (ab (eI .i64) p1c1_3)]]]=(bo p0 p1c0 (aQ.mk (aw.mk p1c1_0 p1c1_1) (aw.mk p1c1_2 p1c1_3))).map fun r:Bool=>(.clean (.bool r),none):=aC _ _ _ (p0,(p1c0,(aQ.mk (aw.mk p1c1_0 p1c1_1) (aw.mk p1c1_2 p1c1_3))))
noncomputable def cq:Env:=(Am.ext aU 68 false dp)
theorem gS:bK Tryz.prog cq:=(bK.none.add iT false)
theorem iB:type_of% (ai @w<|ai @eQ<|@cq.eq_1):=⟨@w,@eQ,@cq.eq_1⟩
theorem il (p0:(List az)) (p1c0:Int) (p1c1:aQ) (r:Bool) (hh:bo p0 p1c0 p1c1=some r):aM .clean tab cq FU Tryz.f40 none [.sl false false p0.length (ab aA p0),.clo 75 0 [.ip [.int .i64 p1c0],.ip [.int .i64 p1c1.cn.ah,.sl false false p1c1.cn.aa.length (ab (eI .i64) p1c1.cn.aa),.int .i64 p1c1.cl.ah,.sl false false p1c1.cl.aa.length (ab (eI .i64) p1c1.cl.aa)]]]=some (.clean (.bool r),none):=by
 refine aq rfl Tryz.ntmps40 Tryz.results40 ?_
 unfold bo at hh
 obtain⟨r1,hr1,hh⟩:=ae hh
 cases hh
 try simp only[iB,seval,-Int.reduceToNat,hr1]
theorem gU:bE Tryz.prog 40 cU:=bE.of (mode := .clean) tok gS mixed Tryz.func40 (by kernel_rfl) ⟨by kernel_rfl,by kernel_rfl⟩ (fun _=>Nat.le_of_ble_eq_true (by kernel_rfl)) (fun x r h=>il x.1 x.2.1 x.2.2 r h)
noncomputable def iZ:=dI (cH (cI Ci) (cH (aI .i64) (cH (eZ aR) (dn (eZ aA))))) (fun x:j9×Int×(List aF)×(List az)=>dV x.1 x.2.1 x.2.2.1 x.2.2.2) (fun r:Int =>.clean (.int .i64 r))
theorem mX (p0_0:(List av)) (p0_1:Int) (p0_2:Int) (p0_3:Int) (p1:Int) (p2:(List aF)) (p3:(List az)):iZ none [.agg [.sl false false p0_0.length (ab al p0_0),.int .i64 p0_1,.int .i64 p0_2,.int .i64 p0_3],.int .i64 p1,.sl false false p2.length (ab aR p2),.sl false false p3.length (ab aA p3)]=(dV (j9.mk (au.mk p0_0) p0_1 p0_2 p0_3) p1 p2 p3).map fun r:Int=>(.clean (.int .i64 r),none):=aC _ _ _ ((j9.mk (au.mk p0_0) p0_1 p0_2 p0_3),p1,p2,p3)
noncomputable def gh:Env:=(Am.ext (Am.ext (Am.ext (Am.ext aU 40 false cU) 71 false cV) 73 false jD) 74 false xn)
theorem tZ:bK Tryz.prog gh:=((((bK.none.add gU false).add gV false).add uZ false).add M4 false)
theorem cR:type_of% (ai @w<|ai @eu<|ai @ew<|ai @nJ<|ai @EC<|@gh.eq_1):=⟨@w,@eu,@ew,@nJ,@EC,@gh.eq_1⟩
theorem uW (p0:j9) (p1:Int) (p2:(List aF)) (p3:(List az)) (r:Int) (hh:dV p0 p1 p2 p3=some r):aM .clean tab gh FU Tryz.f43 none [.agg [.sl false false p0.Xd.ag.length (ab al p0.Xd.ag),.int .i64 p0.Ac,.int .i64 p0.vF,.int .i64 p0.vE],.int .i64 p1,.sl false false p2.length (ab aR p2),.sl false false p3.length (ab aA p3)]=some (.clean (.int .i64 r),none):=by
 refine aq rfl Tryz.ntmps43 Tryz.results43 ?_
 unfold dV at hh
 obtain⟨r1,hr1,hh⟩:=ae hh
 try simp only[cR,seval,-Int.reduceToNat,hr1]
 refine sp aj hh (fun _ hh =>?_) (fun _ hh =>?_)
 ·cases hh
  try simp only[cR,seval,-Int.reduceToNat,hr1]
 ·obtain⟨x3,hx3,hh⟩:=ae hh
  have ax3:=bF aR hx3
  simp only[b6]at ax3
  obtain⟨r4,hr4,hh⟩:=ae hh
  try simp only[cR,seval,-Int.reduceToNat,hr1,ax3,hr4]
  refine cf (by kernel_rfl) ?_
  try simp only[cR,seval,-Int.reduceToNat,hr1,ax3,hr4]
  refine sp aj hh (fun _ hh =>?_) (fun _ hh =>?_)
  ·cases hh
   try simp only[cR,seval,-Int.reduceToNat,hr1,ax3,hr4]
  ·have ax3:=bF aR hx3
   simp only[b6]at ax3
   obtain⟨r6,hr6,hh⟩:=ae hh
   obtain⟨r7,hr7,hh⟩:=ae hh
   try simp only[cR,seval,-Int.reduceToNat,hr1,ax3,hr4,ax3,hr6,hr7]
   refine sp aj hh (fun _ hh =>?_) (fun _ hh =>?_)
   ·cases hh
    try simp only[cR,seval,-Int.reduceToNat,hr1,ax3,hr4,ax3,hr6,hr7]
   ·cases hh
    try simp only[cR,seval,-Int.reduceToNat,hr1,ax3,hr4,ax3,hr6,hr7]
theorem ub:bE Tryz.prog 43 iZ:=bE.of (mode := .clean) tok tZ mixed Tryz.func43 (by kernel_rfl) ⟨by kernel_rfl,by kernel_rfl⟩ (fun _=>Nat.le_of_ble_eq_true (by kernel_rfl)) (fun x r h=>uW x.1 x.2.1 x.2.2.1 x.2.2.2 r h)
noncomputable def eh:=dI (cH (eZ aA) (dn (aFn 41))) (fun x:(List az)×Unit=>ct x.1) (fun r:Int =>.clean (.int .i64 r))
theorem gi (p0:(List az)):eh none [.sl false false p0.length (ab aA p0),.fn 41]=(ct p0).map fun r:Int=>(.clean (.int .i64 r),none):=aC _ _ _ (p0,())
noncomputable def dj:Env:=(Am.ext aU 41 false ny)
theorem kO:bK Tryz.prog dj:=(bK.none.add Av false)
theorem bg:type_of% (ai @w<|ai @tO<|@dj.eq_1):=⟨@w,@tO,@dj.eq_1⟩
theorem lq (p0:(List az)) (r:Int) (hh:ct p0=some r):aM .clean tab dj FU Tryz.f68 none [.sl false false p0.length (ab aA p0),.fn 41]=some (.clean (.int .i64 r),none):=by
 refine aq rfl Tryz.ntmps68 Tryz.results68 ?_
 unfold ct at hh
 try simp only[bg,seval,-Int.reduceToNat]
 obtain⟨o5,ho5,hh⟩:=ae hh
 refine ax (fun s t H e=>match s with|s8a=>t 0=.sl false false p0.length (ab aA p0)∧t 1=.fn 41∧t 7=.int .i64 (p0.length:Int)∧t 8=.int .i64 s8a) (fun o x t H e=>match o with|(.inl _)=>x=.exit 0|(.inr r)=>x=.ret∧eW .clean tab none [.tmp 4] ⟨t,H,e⟩=some (.clean (.int .i64 r),none)) ho5 ?_ ?_ ?_
 ·refine⟨?_,?_,?_,?_⟩
  all_goals first|rfl|(simp only[bg,seval,-Int.reduceToNat]<;>rfl)
 ·rintro s8a t H e Za c hh
  simp only[cX]at hh
  try simp only[bg,seval,-Int.reduceToNat,Za]
  refine sp aj hh (fun _ hh =>?_) (fun _ hh =>?_)
  ·obtain⟨x7,hx7,hh⟩:=ae hh
   have ax7:=bF aA hx7
   simp only[b6]at ax7
   obtain⟨r8,hr8,hh⟩:=ae hh
   try simp only[bg,seval,-Int.reduceToNat,Za,ax7,hr8]
   refine sp aj hh (fun _ hh =>?_) (fun _ hh =>?_)
   ·cases hh
    try simp only[bg,seval,-Int.reduceToNat,Za,ax7,hr8]
    refine pc ⟨rfl,?_⟩
    try simp only[bg,seval,-Int.reduceToNat,Za,ax7,hr8]
   ·cases hh
    try simp only[bg,seval,-Int.reduceToNat,Za,ax7,hr8]
    refine gA ?_
    refine⟨?_,?_,?_,?_⟩
    all_goals first|rfl|(simp only[bg,seval,-Int.reduceToNat,Za,ax7,hr8]<;>rfl)
  ·cases hh
   try simp only[bg,seval,-Int.reduceToNat,Za]
   refine iS ?_
   exact rfl
 ·rintro x t H e hx
  rcases o5 with _|ra
  ·dsimp only at hx hh
   subst hx
   cases hh
   try simp only[bg,seval,-Int.reduceToNat]
  ·dsimp only at hx hh
   obtain⟨rfl,hE⟩:=hx
   cases hh
   try simp only[aO,aG,aW,bX,bW]
   exact hE
theorem kQ:bE Tryz.prog 68 eh:=bE.of (mode := .clean) tok kO mixed Tryz.func68 (by kernel_rfl) ⟨by kernel_rfl,by kernel_rfl⟩ (fun _=>Nat.le_of_ble_eq_true (by kernel_rfl)) (fun x r h=>lq x.1 r h)
noncomputable def dJ:=dI (cH (eZ aA) (dn (aFn 41))) (fun x:(List az)×Unit=>aJ x.1) (fun r:Bool =>.clean (.bool r))
theorem fD (p0:(List az)):dJ none [.sl false false p0.length (ab aA p0),.fn 41]=(aJ p0).map fun r:Bool=>(.clean (.bool r),none):=aC _ _ _ (p0,())
noncomputable def cN:Env:=(Am.ext aU 68 false eh)
theorem jF:bK Tryz.prog cN:=(bK.none.add kQ false)
theorem jT:type_of% (ai @w<|ai @gi<|@cN.eq_1):=⟨@w,@gi,@cN.eq_1⟩
theorem jL (p0:(List az)) (r:Bool) (hh:aJ p0=some r):aM .clean tab cN FU Tryz.f40 none [.sl false false p0.length (ab aA p0),.fn 41]=some (.clean (.bool r),none):=by
 refine aq rfl Tryz.ntmps40 Tryz.results40 ?_
 unfold aJ at hh
 obtain⟨r1,hr1,hh⟩:=ae hh
 cases hh
 try simp only[jT,seval,-Int.reduceToNat,hr1]
theorem jG:bE Tryz.prog 40 dJ:=bE.of (mode := .clean) tok jF mixed Tryz.func40 (by kernel_rfl) ⟨by kernel_rfl,by kernel_rfl⟩ (fun _=>Nat.le_of_ble_eq_true (by kernel_rfl)) (fun x r h=>jL x.1 r h)
noncomputable def jI:=dI (cH (cI di) (cH (aI .i64) (cH (aI .i64) (cH (aI .i64) (cH (eZ (eI .i64)) (cH (eZ aR) (dn (eZ aA)))))))) (fun x:au×Int×Int×Int×(List Int)×(List aF)×(List az)=>eV x.1 x.2.1 x.2.2.1 x.2.2.2.1 x.2.2.2.2.1 x.2.2.2.2.2.1 x.2.2.2.2.2.2) (fun r:(List bn)×Int =>.clean (.tup [.sl false false r.1.length (ab bN r.1),.int .i64 r.2]))
theorem fB (p0_0:(List av)) (p1:Int) (p2:Int) (p3:Int) (p4:(List Int)) (p5:(List aF)) (p6:(List az)):jI none [.agg [.sl false false p0_0.length (ab al p0_0)],.int .i64 p1,.int .i64 p2,.int .i64 p3,.sl false false p4.length (ab (eI .i64) p4),.sl false false p5.length (ab aR p5),.sl false false p6.length (ab aA p6)]=(eV (au.mk p0_0) p1 p2 p3 p4 p5 p6).map fun r:(List bn)×Int=>(.clean (.tup [.sl false false r.1.length (ab bN r.1),.int .i64 r.2]),none):=aC _ _ _ ((au.mk p0_0),p1,p2,p3,p4,p5,p6)
noncomputable def mr:Env:=(Am.ext (Am.ext (Am.ext (Am.ext aU 39 false gx) 40 false dJ) 42 false mg) 43 false iZ)
theorem DN:bK Tryz.prog mr:=((((bK.none.add jg false).add jG false).add u5 false).add ub false)
theorem bt:type_of% (ai @w<|ai @dO<|ai @fD<|ai @mE<|ai @mX<|@mr.eq_1):=⟨@w,@dO,@fD,@mE,@mX,@mr.eq_1⟩
theorem FJ (p0:au) (p1:Int) (p2:Int) (p3:Int) (p4:(List Int)) (p5:(List aF)) (p6:(List az)) (r:(List bn)×Int) (hh:eV p0 p1 p2 p3 p4 p5 p6=some r):aM .clean tab mr FU Tryz.f13 none [.agg [.sl false false p0.ag.length (ab al p0.ag)],.int .i64 p1,.int .i64 p2,.int .i64 p3,.sl false false p4.length (ab (eI .i64) p4),.sl false false p5.length (ab aR p5),.sl false false p6.length (ab aA p6)]=some (.clean (.tup [.sl false false r.1.length (ab bN r.1),.int .i64 r.2]),none):=by
 refine aq rfl Tryz.ntmps13 Tryz.results13 ?_
 unfold eV at hh
 obtain⟨r1,hr1,hh⟩:=ae hh
 try simp only[bt,seval,-Int.reduceToNat,hr1]
 obtain⟨o2,ho2,hh⟩:=ae hh
 refine bA 0 (fun s t H e=>match s with|s21j1=>∃v7j1:Nat,t 1=.int .i64 p1∧t 2=.int .i64 p2∧t 3=.int .i64 p3∧t 4=.sl false false p4.length (ab (eI .i64) p4)∧t 5=.sl false false p5.length (ab aR p5)∧t 6=.sl false false p6.length (ab aA p6)∧t 7=.ptr 7 v7j1 0∧t 21=.bool s21j1∧H 7=some ⟨v7j1,24,[.sl false false p0.ag.length (ab al p0.ag)],false,false,false⟩) (fun s=>s=o2) ?_ ?_
 ·rintro s21j1 t H e ⟨v7j1,Zj1⟩ rfl
  try dsimp only at hh
  try simp only[bt,seval,-Int.reduceToNat,hr1,Zj1]
  refine sp aj hh (fun _ hh =>?_) (fun _ hh =>?_)
  ·cases hh
   try simp only[bt,seval,-Int.reduceToNat,hr1,Zj1]
  ·obtain⟨r4,hr4,hh⟩:=ae hh
   try simp only[bt,seval,-Int.reduceToNat,hr1,Zj1,hr4]
   refine sp aj hh (fun _ hh =>?_) (fun _ hh =>?_)
   ·cases hh
    try simp only[bt,seval,-Int.reduceToNat,hr1,Zj1,hr4]
   ·obtain⟨r6,hr6,hh⟩:=ae hh
    try simp only[bt,seval,-Int.reduceToNat,hr1,Zj1,hr4,hr6]
    refine sp aj hh (fun _ hh =>?_) (fun _ hh =>?_)
    ·cases hh
     try simp only[bt,seval,-Int.reduceToNat,hr1,Zj1,hr4,hr6]
    ·try simp only[bt,seval,-Int.reduceToNat,hr1,Zj1,hr4,hr6]
     obtain⟨o14,ho14,hh⟩:=ae hh
     refine ax (fun s t H e=>match s with|(s49b,l17b)=>∃v16b:Nat,∃v17b:Nat,t 5=.sl false false p5.length (ab aR p5)∧t 6=.sl false false p6.length (ab aA p6)∧t 16=.ptr 16 v16b 0∧t 17=.buf 17 v17b 2 0 (l17b).length∧t 47=.sl false false p4.length (ab (eI .i64) p4)∧t 48=.int .i64 (p4.length:Int)∧t 49=.int .i64 s49b∧H 16=some ⟨v16b,92,[.sl false false p0.ag.length (ab al p0.ag),.int .i64 p1,.int .i64 p2,.int .i64 p3],false,false,false⟩∧H 17=some ⟨v17b,74,ab bN l17b,false,true,false⟩) (fun o x t H e=>match o with|l17bx=>x=.exit 1∧∃v17bx:Nat,t 17=.buf 17 v17bx 2 0 (l17bx).length∧H 17=some ⟨v17bx,74,ab bN l17bx,false,true,false⟩) ho14 ?_ ?_ ?_
     ·refine⟨e+1+1,e+1+1+1,?_,?_,?_,?_,?_,?_,?_,?_,?_⟩
      all_goals first|rfl|(simp only[bt,seval,-Int.reduceToNat,hr1,Zj1,hr4,hr6]<;>rfl)
     ·rintro⟨s49b,l17b⟩ t H e ⟨v16b,v17b,Zb⟩ c hh
      simp only[eo]at hh
      try simp only[bt,seval,-Int.reduceToNat,hr1,hr4,hr6,Zb]
      refine sp aj hh (fun _ hh =>?_) (fun _ hh =>?_)
      ·obtain⟨x16,hx16,hh⟩:=ae hh
       have ax16:=bF (eI .i64) hx16
       simp only[b6]at ax16
       obtain⟨r17,hr17,hh⟩:=ae hh
       try simp only[bt,seval,-Int.reduceToNat,hr1,hr4,hr6,Zb,ax16,hr17]
       refine sp aj hh (fun _ hh =>?_) (fun _ hh =>?_)
       ·obtain⟨x19,hx19,hh⟩:=ae hh
        obtain⟨q20a,q20b,q20c,q20d⟩:=fa bN hx19
        simp only[b6]at q20b
        cases hh
        try simp only[bt,seval,-Int.reduceToNat,hr1,hr4,hr6,Zb,ax16,hr17,q20a,q20b,q20c,q20d]
        refine gA ?_
        refine⟨v16b,e+1+1+1+1,?_,?_,?_,?_,?_,?_,?_,?_,?_⟩
        all_goals first|rfl|(simp only[bt,seval,-Int.reduceToNat,hr1,hr4,hr6,Zb,ax16,hr17,q20a,q20b,q20c,q20d]<;>rfl)
       ·cases hh
        try simp only[bt,seval,-Int.reduceToNat,hr1,hr4,hr6,Zb,ax16,hr17]
        refine gA ?_
        refine⟨v16b,v17b,?_,?_,?_,?_,?_,?_,?_,?_,?_⟩
        all_goals first|rfl|(simp only[bt,seval,-Int.reduceToNat,hr1,hr4,hr6,Zb,ax16,hr17]<;>rfl)
      ·cases hh
       try simp only[bt,seval,-Int.reduceToNat,hr1,hr4,hr6,Zb]
       refine iS ?_
       refine⟨rfl,⟨v17b,?_,?_⟩⟩
       all_goals first|rfl|(simp only[bt,seval,-Int.reduceToNat,hr1,hr4,hr6,Zb]<;>rfl)
     ·rintro x t H e hx
      obtain⟨l17bx,rfl⟩:∃z,z=o14:=⟨_,rfl⟩
      dsimp only at hx hh
      obtain⟨rfl,⟨v17bx,Zbx⟩⟩:=hx
      cases hh
      try simp only[bt,seval,-Int.reduceToNat,hr1,hr4,hr6,Zbx]
 ·clear hh
  have hh:=ho2
  try simp only[bt,seval,-Int.reduceToNat,hr1]
  refine sp aB hh (fun _ hh =>?_) (fun _ hh =>?_)
  ·cases hh
   try simp only[bt,seval,-Int.reduceToNat,hr1]
   rw[ak]
   refine⟨_,rfl,?_⟩
   refine⟨0,?_,?_,?_,?_,?_,?_,?_,?_,?_⟩
   all_goals first|rfl|(simp only[bt,seval,-Int.reduceToNat,hr1]<;>rfl)
  ·try simp only[bt,seval,-Int.reduceToNat,hr1]
   refine sp aB hh (fun _ hh =>?_) (fun _ hh =>?_)
   ·cases hh
    try simp only[bt,seval,-Int.reduceToNat,hr1]
    rw[ak]
    refine⟨_,rfl,?_⟩
    refine⟨0,?_,?_,?_,?_,?_,?_,?_,?_,?_⟩
    all_goals first|rfl|(simp only[bt,seval,-Int.reduceToNat,hr1]<;>rfl)
   ·cases hh
    try simp only[bt,seval,-Int.reduceToNat,hr1]
    rw[ak]
    refine⟨_,rfl,?_⟩
    refine⟨0,?_,?_,?_,?_,?_,?_,?_,?_,?_⟩
    all_goals first|rfl|(simp only[bt,seval,-Int.reduceToNat,hr1]<;>rfl)
theorem pe:bE Tryz.prog 13 jI:=bE.of (mode := .clean) tok DN mixed Tryz.func13 (by kernel_rfl) ⟨by kernel_rfl,by kernel_rfl⟩ (fun _=>Nat.le_of_ble_eq_true (by kernel_rfl)) (fun x r h=>FJ x.1 x.2.1 x.2.2.1 x.2.2.2.1 x.2.2.2.2.1 x.2.2.2.2.2.1 x.2.2.2.2.2.2 r h)
noncomputable def rO:=dI (cH (eZ bN) (dn (eZ bN))) (fun x:(List bn)×(List bn)=>np x.1 x.2) (fun r:Bool =>.clean (.bool r))
theorem sT (p0:(List bn)) (p1:(List bn)):rO none [.sl false false p0.length (ab bN p0),.sl false false p1.length (ab bN p1)]=(np p0 p1).map fun r:Bool=>(.clean (.bool r),none):=aC _ _ _ (p0,p1)
theorem Pf (p0:(List bn)) (p1:(List bn)) (r:Bool) (hh:np p0 p1=some r):aM .clean tab aU FU Tryz.f17 none [.sl false false p0.length (ab bN p0),.sl false false p1.length (ab bN p1)]=some (.clean (.bool r),none):=by
 refine aq rfl Tryz.ntmps17 Tryz.results17 ?_
 unfold np at hh
 try simp only[w,seval,-Int.reduceToNat]
 refine sp aj hh (fun _ hh =>?_) (fun _ hh =>?_)
 ·cases hh
  try simp only[w,seval,-Int.reduceToNat]
 ·try simp only[w,seval,-Int.reduceToNat]
  obtain⟨o6,ho6,hh⟩:=ae hh
  refine ax (fun s t H e=>match s with|s5a=>t 0=.sl false false p0.length (ab bN p0)∧t 1=.sl false false p1.length (ab bN p1)∧t 5=.int .i64 s5a) (fun o x t H e=>match o with|(.inl _)=>x=.exit 0|(.inr r)=>x=.ret∧eW .clean tab none [.tmp 4] ⟨t,H,e⟩=some (.clean (.bool r),none)) ho6 ?_ ?_ ?_
  ·refine⟨?_,?_,?_⟩
   all_goals first|rfl|(simp only[w,seval,-Int.reduceToNat]<;>rfl)
  ·rintro s5a t H e Za c hh
   simp only[nq]at hh
   try simp only[w,seval,-Int.reduceToNat,Za]
   refine sp aj hh (fun _ hh =>?_) (fun _ hh =>?_)
   ·obtain⟨x8,hx8,hh⟩:=ae hh
    have ax8:=bF bN hx8
    simp only[b6]at ax8
    obtain⟨x9,hx9,hh⟩:=ae hh
    have ax9:=bF bN hx9
    simp only[b6]at ax9
    try simp only[w,seval,-Int.reduceToNat,Za,ax8,ax9]
    refine cf (by kernel_rfl) ?_
    try simp only[w,seval,-Int.reduceToNat,Za,ax8,ax9]
    refine sp aj hh (fun _ hh =>?_) (fun _ hh =>?_)
    ·cases hh
     try simp only[w,seval,-Int.reduceToNat,Za,ax8,ax9]
     refine pc ⟨rfl,?_⟩
     try simp only[w,seval,-Int.reduceToNat,Za,ax8,ax9]
    ·cases hh
     try simp only[w,seval,-Int.reduceToNat,Za,ax8,ax9]
     refine gA ?_
     refine⟨?_,?_,?_⟩
     all_goals first|rfl|(simp only[w,seval,-Int.reduceToNat,Za,ax8,ax9]<;>rfl)
   ·cases hh
    try simp only[w,seval,-Int.reduceToNat,Za]
    refine iS ?_
    exact rfl
  ·rintro x t H e hx
   rcases o6 with _|ra
   ·dsimp only at hx hh
    subst hx
    cases hh
    try simp only[w,seval,-Int.reduceToNat]
   ·dsimp only at hx hh
    obtain⟨rfl,hE⟩:=hx
    cases hh
    try simp only[aO,aG,aW,bX,bW]
    exact hE
theorem Bk:bE Tryz.prog 17 rO:=bE.of (mode := .clean) tok bK.none mixed Tryz.func17 (by kernel_rfl) ⟨by kernel_rfl,by kernel_rfl⟩ (fun _=>Nat.le_of_ble_eq_true (by kernel_rfl)) (fun x r h=>Pf x.1 x.2 r h)
noncomputable def xp:=dI (cH (cI di) (cH (eZ (eI .i64)) (cH (aI .i64) (cH (eZ aA) (dn (eZ bN)))))) (fun x:au×(List Int)×Int×(List az)×(List bn)=>jK x.1 x.2.1 x.2.2.1 x.2.2.2.1 x.2.2.2.2) (fun r:Bool =>.clean (.bool r))
theorem l3 (p0_0:(List av)) (p1:(List Int)) (p2:Int) (p3:(List az)) (p4:(List bn)):xp none [.agg [.sl false false p0_0.length (ab al p0_0)],.sl false false p1.length (ab (eI .i64) p1),.int .i64 p2,.sl false false p3.length (ab aA p3),.sl false false p4.length (ab bN p4)]=(jK (au.mk p0_0) p1 p2 p3 p4).map fun r:Bool=>(.clean (.bool r),none):=aC _ _ _ ((au.mk p0_0),p1,p2,p3,p4)
noncomputable def sr:Env:=(Am.ext (Am.ext aU 13 false jI) 17 false rO)
theorem Ly:bK Tryz.prog sr:=((bK.none.add pe false).add Bk false)
theorem xY:type_of% (ai @w<|ai @fB<|ai @sT<|@sr.eq_1):=⟨@w,@fB,@sT,@sr.eq_1⟩
theorem O1 (p0:au) (p1:(List Int)) (p2:Int) (p3:(List az)) (p4:(List bn)) (r:Bool) (hh:jK p0 p1 p2 p3 p4=some r):aM .clean tab sr FU Tryz.f38 none [.agg [.sl false false p0.ag.length (ab al p0.ag)],.sl false false p1.length (ab (eI .i64) p1),.int .i64 p2,.sl false false p3.length (ab aA p3),.sl false false p4.length (ab bN p4)]=some (.clean (.bool r),none):=by
 refine aq rfl Tryz.ntmps38 Tryz.results38 ?_
 unfold jK at hh
 have i1:=fB p0.ag 4 60 24 p1 ([(aF.mk 1 ([4,3,1]) (ByteArray.mk #[98]) p2 8)]) p3
 simp only[aZ,b6,List.length_cons,List.length_nil,Nat.zero_add,Nat.reduceAdd,List.length_set]at i1
 obtain⟨r2,hr2,hh⟩:=ae hh
 try simp only[xY,seval,-Int.reduceToNat,i1,hr2]
 refine sp bd hh (fun _ hh =>?_) (fun _ hh =>?_)
 ·obtain⟨r4,hr4,hh⟩:=ae hh
  cases hh
  try simp only[xY,seval,-Int.reduceToNat,i1,hr2,hr4]
 ·cases hh
  try simp only[xY,seval,-Int.reduceToNat,i1,hr2]
theorem M6:bE Tryz.prog 38 xp:=bE.of (mode := .clean) tok Ly mixed Tryz.func38 (by kernel_rfl) ⟨by kernel_rfl,by kernel_rfl⟩ (fun _=>Nat.le_of_ble_eq_true (by kernel_rfl)) (fun x r h=>O1 x.1 x.2.1 x.2.2.1 x.2.2.2.1 x.2.2.2.2 r h)
noncomputable def ur:=dI (dn (eZ (eI .i64))) (fun x:(List Int)=>wo x) (fun r:ByteArray =>.clean (.str r))
theorem BA (p0:(List Int)):ur none [.sl false false p0.length (ab (eI .i64) p0)]=(wo p0).map fun r:ByteArray=>(.clean (.str r),none):=aC _ _ _ p0
theorem JT:bE Tryz.prog 53 ur:=Xm
noncomputable def pO:=dI (dn (eZ (eI .i64))) (fun x:(List Int)=>kM x) (fun r:ByteArray =>.clean (.str r))
theorem mZ (p0:(List Int)):pO none [.sl false false p0.length (ab (eI .i64) p0)]=(kM p0).map fun r:ByteArray=>(.clean (.str r),none):=aC _ _ _ (p0)
noncomputable def qm:Env:=(Am.ext aU 53 false ur)
theorem Jh:bK Tryz.prog qm:=(bK.none.add JT false)
theorem N6:type_of% (ai @w<|ai @BA<|@qm.eq_1):=⟨@w,@BA,@qm.eq_1⟩
theorem MI (p0:(List Int)) (r:ByteArray) (hh:kM p0=some r):aM .clean tab qm FU Tryz.f21 none [.sl false false p0.length (ab (eI .i64) p0)]=some (.clean (.str r),none):=by
 refine aq rfl Tryz.ntmps21 Tryz.results21 ?_
 unfold kM at hh
 obtain⟨r1,hr1,hh⟩:=ae hh
 cases hh
 try simp only[N6,seval,-Int.reduceToNat,hr1]
theorem zc:bE Tryz.prog 21 pO:=bE.of (mode := .clean) tok Jh mixed Tryz.func21 (by kernel_rfl) ⟨by kernel_rfl,by kernel_rfl⟩ (fun _=>Nat.le_of_ble_eq_true (by kernel_rfl)) (fun x r h=>MI x r h)
theorem FT (p0 r:(List av)) (hh:kJ p0=some r):aM .tight tab aU FU Tryz.f92 none [.sl false false p0.length (ab al p0)]=some (.clean (.sl false true r.length (ab al r)),none):=by
 unfold kJ at hh
 split at hh
 ·cases hh
  refine aq rfl Tryz.ntmps92 Tryz.results92 ?_
  simp only[w,seval,-Int.reduceToNat,Int.toNat_natCast,Int.natCast_nonneg]
 ·cases hh
noncomputable def qQ:=dI (dn (eZ al)) (fun x:(List av)=>kJ x) (fun r:(List av) =>.clean (.sl false true r.length (ab al r)))
theorem w8 (p0:(List av)):qQ none [.sl false false p0.length (ab al p0)]=(kJ p0).map fun r:(List av)=>(.clean (.sl false true r.length (ab al r)),none):=aC _ _ _ p0
theorem Er:bE Tryz.prog 92 qQ:=bE.of (mode := .tight) tok bK.none mixed Tryz.func92 (by kernel_rfl) ⟨by kernel_rfl,by kernel_rfl⟩ (fun _=>Nat.le_of_ble_eq_true (by kernel_rfl)) (fun x r h=>FT x r h)
noncomputable def uq:=dI (cH (cI di) (dn (cI al))) (fun x:au×av=>mc x.1 x.2) (fun r:au×Int×Int =>.clean (.tup [.agg [.sl false false r.1.ag.length (ab al r.1.ag)],.int .i64 r.2.1,.int .i64 r.2.2]))
theorem Bz (p0_0:(List av)) (p1_0:ByteArray) (p1_1:Int) (p1_2:Int) (p1_3:Int) (p1_4:Int):uq none [.agg [.sl false false p0_0.length (ab al p0_0)],.agg [.str p1_0,.int .i64 p1_1,.int .i64 p1_2,.int .i64 p1_3,.int .i64 p1_4]]=(mc (au.mk p0_0) (av.mk p1_0 p1_1 p1_2 p1_3 p1_4)).map fun r:au×Int×Int=>(.clean (.tup [.agg [.sl false false r.1.ag.length (ab al r.1.ag)],.int .i64 r.2.1,.int .i64 r.2.2]),none):=aC _ _ _ ((au.mk p0_0),(av.mk p1_0 p1_1 p1_2 p1_3 p1_4))
noncomputable def qn:Env:=(Am.ext (Am.ext aU 63 false kX) 92 false qQ)
theorem Ji:bK Tryz.prog qn:=((bK.none.add tN false).add Er false)
theorem BR:type_of% (ai @w<|ai @lA<|ai @w8<|@qn.eq_1):=⟨@w,@lA,@w8,@qn.eq_1⟩
theorem MK (p0:au) (p1:av) (r:au×Int×Int) (hh:mc p0 p1=some r):aM .clean tab qn FU Tryz.f52 none [.agg [.sl false false p0.ag.length (ab al p0.ag)],.agg [.str p1.cp,.int .i64 p1.aE,.int .i64 p1.aY,.int .i64 p1.bT,.int .i64 p1.bJ]]=some (.clean (.tup [.agg [.sl false false r.1.ag.length (ab al r.1.ag)],.int .i64 r.2.1,.int .i64 r.2.2]),none):=by
 refine aq rfl Tryz.ntmps52 Tryz.results52 ?_
 unfold mc at hh
 obtain⟨r1,hr1,hh⟩:=ae hh
 obtain⟨r2,hr2,hh⟩:=ae hh
 obtain⟨x3,hx3,hh⟩:=ae hh
 obtain⟨q4a,q4b,q4c,q4d⟩:=fa al hx3
 simp only[b6]at q4b
 try simp only[BR,seval,-Int.reduceToNat,hr1,hr2,q4a,q4b,q4c,q4d]
 refine cf (by kernel_rfl) ?_
 cases hh
 try simp only[BR,seval,-Int.reduceToNat,hr1,hr2,q4a,q4b,q4c,q4d]
theorem JS:bE Tryz.prog 52 uq:=bE.of (mode := .clean) tok Ji mixed Tryz.func52 (by kernel_rfl) ⟨by kernel_rfl,by kernel_rfl⟩ (fun _=>Nat.le_of_ble_eq_true (by kernel_rfl)) (fun x r h=>MK x.1 x.2 r h)
noncomputable def rV:=dI (cH (cI di) (cH Sk (cH (aI .i64) (dn (aI .i64))))) (fun x:au×ByteArray×Int×Int=>kg x.1 x.2.1 x.2.2.1 x.2.2.2) (fun r:au×Int×Int =>.clean (.tup [.agg [.sl false false r.1.ag.length (ab al r.1.ag)],.int .i64 r.2.1,.int .i64 r.2.2]))
theorem zm (p0_0:(List av)) (p1:ByteArray) (p2:Int) (p3:Int):rV none [.agg [.sl false false p0_0.length (ab al p0_0)],.str p1,.int .i64 p2,.int .i64 p3]=(kg (au.mk p0_0) p1 p2 p3).map fun r:au×Int×Int=>(.clean (.tup [.agg [.sl false false r.1.ag.length (ab al r.1.ag)],.int .i64 r.2.1,.int .i64 r.2.2]),none):=aC _ _ _ ((au.mk p0_0),p1,p2,p3)
noncomputable def n5:Env:=(Am.ext (Am.ext (Am.ext aU 39 false gx) 51 false nN) 52 false uq)
theorem FE:bK Tryz.prog n5:=(((bK.none.add jg false).add wZ false).add JS false)
theorem eC:type_of% (ai @w<|ai @dO<|ai @ou<|ai @Bz<|@n5.eq_1):=⟨@w,@dO,@ou,@Bz,@n5.eq_1⟩
theorem Jz (p0:au) (p1:ByteArray) (p2:Int) (p3:Int) (r:au×Int×Int) (hh:kg p0 p1 p2 p3=some r):aM .clean tab n5 FU Tryz.f20 none [.agg [.sl false false p0.ag.length (ab al p0.ag)],.str p1,.int .i64 p2,.int .i64 p3]=some (.clean (.tup [.agg [.sl false false r.1.ag.length (ab al r.1.ag)],.int .i64 r.2.1,.int .i64 r.2.2]),none):=by
 refine aq rfl Tryz.ntmps20 Tryz.results20 ?_
 unfold kg at hh
 obtain⟨r1,hr1,hh⟩:=ae hh
 try simp only[eC,seval,-Int.reduceToNat,hr1]
 obtain⟨o2,ho2,hh⟩:=ae hh
 refine bA 0 (fun s t H e=>match s with|s16j1=>∃v4j1:Nat,∃v8j1:Nat,∃v11j1:Nat,t 4=.ptr 4 v4j1 0∧t 8=.ptr 8 v8j1 0∧t 11=.ptr 11 v11j1 0∧t 16=.bool s16j1∧H 4=some ⟨v4j1,24,[.sl false false p0.ag.length (ab al p0.ag)],false,false,false⟩∧H 8=some ⟨v8j1,24,[.sl true true 0 []],false,false,false⟩∧H 11=some ⟨v11j1,87,[.str p1,.int .i64 p2,.int .i64 p3,.int .i64 (-1),.int .i64 (-1)],false,false,false⟩) (fun s=>s=o2) ?_ ?_
 ·rintro s16j1 t H e ⟨v4j1,v8j1,v11j1,Zj1⟩ rfl
  try dsimp only at hh
  try simp only[eC,seval,-Int.reduceToNat,hr1,Zj1]
  refine sp aj hh (fun _ hh =>?_) (fun _ hh =>?_)
  ·cases hh
   try simp only[eC,seval,-Int.reduceToNat,hr1,Zj1]
  ·try simp only[eC,seval,-Int.reduceToNat,hr1,Zj1]
   refine sp aj hh (fun _ hh =>?_) (fun _ hh =>?_)
   ·cases hh
    try simp only[eC,seval,-Int.reduceToNat,hr1,Zj1]
   ·obtain⟨r5,hr5,hh⟩:=ae hh
    cases hh
    try simp only[eC,seval,-Int.reduceToNat,hr1,Zj1,hr5]
 ·clear hh
  have hh:=ho2
  try simp only[eC,seval,-Int.reduceToNat,hr1]
  refine sp aB hh (fun _ hh =>?_) (fun _ hh =>?_)
  ·cases hh
   try simp only[eC,seval,-Int.reduceToNat,hr1]
   rw[ak]
   refine⟨_,rfl,?_⟩
   refine⟨0,0,1,?_,?_,?_,?_,?_,?_,?_⟩
   all_goals first|rfl|(simp only[eC,seval,-Int.reduceToNat,hr1]<;>rfl)
  ·obtain⟨r7,hr7,hh⟩:=ae hh
   cases hh
   try simp only[eC,seval,-Int.reduceToNat,hr1,hr7]
   rw[ak]
   refine⟨_,rfl,?_⟩
   refine⟨0,0,1,?_,?_,?_,?_,?_,?_,?_⟩
   all_goals first|rfl|(simp only[eC,seval,-Int.reduceToNat,hr1,hr7]<;>rfl)
theorem F8:bE Tryz.prog 20 rV:=bE.of (mode := .clean) tok FE mixed Tryz.func20 (by kernel_rfl) ⟨by kernel_rfl,by kernel_rfl⟩ (fun _=>Nat.le_of_ble_eq_true (by kernel_rfl)) (fun x r h=>Jz x.1 x.2.1 x.2.2.1 x.2.2.2 r h)
noncomputable def nM:=dI (cH (eZ (eI .i64)) (dn (aI .i64))) (fun x:(List Int)×Int=>jj x.1 x.2) (fun r:Bool =>.clean (.bool r))
theorem ot (p0:(List Int)) (p1:Int):nM none [.sl false false p0.length (ab (eI .i64) p0),.int .i64 p1]=(jj p0 p1).map fun r:Bool=>(.clean (.bool r),none):=aC _ _ _ (p0,p1)
theorem Jt (p0:(List Int)) (p1:Int) (r:Bool) (hh:jj p0 p1=some r):aM .clean tab aU FU Tryz.f23 none [.sl false false p0.length (ab (eI .i64) p0),.int .i64 p1]=some (.clean (.bool r),none):=by
 refine aq rfl Tryz.ntmps23 Tryz.results23 ?_
 unfold jj at hh
 try simp only[w,seval,-Int.reduceToNat]
 obtain⟨o1,ho1,hh⟩:=ae hh
 refine bA 0 (fun s t H e=>match s with|s19j1=>t 0=.sl false false p0.length (ab (eI .i64) p0)∧t 1=.int .i64 p1∧t 19=.bool s19j1) (fun s=>s=o1) ?_ ?_
 ·rintro s19j1 t H e Zj1 rfl
  try dsimp only at hh
  try simp only[w,seval,-Int.reduceToNat,Zj1]
  refine sp aj hh (fun _ hh =>?_) (fun _ hh =>?_)
  ·cases hh
   try simp only[w,seval,-Int.reduceToNat,Zj1]
  ·try simp only[w,seval,-Int.reduceToNat,Zj1]
   obtain⟨o7,ho7,hh⟩:=ae hh
   refine ax (fun s t H e=>match s with|s22b=>t 1=.int .i64 p1∧t 20=.sl false false p0.length (ab (eI .i64) p0)∧t 21=.int .i64 (p0.length:Int)∧t 22=.int .i64 s22b) (fun o x t H e=>match o with|(.inl _)=>x=.exit 0|(.inr r)=>x=.ret∧eW .clean tab none [.tmp 4] ⟨t,H,e⟩=some (.clean (.bool r),none)) ho7 ?_ ?_ ?_
   ·refine⟨?_,?_,?_,?_⟩
    all_goals first|rfl|(simp only[w,seval,-Int.reduceToNat,Zj1]<;>rfl)
   ·rintro s22b t H e Zb c hh
    simp only[jS]at hh
    try simp only[w,seval,-Int.reduceToNat,Zb]
    refine sp aj hh (fun _ hh =>?_) (fun _ hh =>?_)
    ·obtain⟨x9,hx9,hh⟩:=ae hh
     have ax9:=bF (eI .i64) hx9
     simp only[b6]at ax9
     try simp only[w,seval,-Int.reduceToNat,Zb,ax9]
     refine sp aB hh (fun _ hh =>?_) (fun _ hh =>?_)
     ·cases hh
      try simp only[w,seval,-Int.reduceToNat,Zb,ax9]
      refine pc ⟨rfl,?_⟩
      try simp only[w,seval,-Int.reduceToNat,Zb,ax9]
     ·try simp only[w,seval,-Int.reduceToNat,Zb,ax9]
      refine sp aj hh (fun _ hh =>?_) (fun _ hh =>?_)
      ·cases hh
       try simp only[w,seval,-Int.reduceToNat,Zb,ax9]
       refine pc ⟨rfl,?_⟩
       try simp only[w,seval,-Int.reduceToNat,Zb,ax9]
      ·cases hh
       try simp only[w,seval,-Int.reduceToNat,Zb,ax9]
       refine gA ?_
       refine⟨?_,?_,?_,?_⟩
       all_goals first|rfl|(simp only[w,seval,-Int.reduceToNat,Zb,ax9]<;>rfl)
    ·cases hh
     try simp only[w,seval,-Int.reduceToNat,Zb]
     refine iS ?_
     exact rfl
   ·rintro x t H e hx
    rcases o7 with _|rb
    ·dsimp only at hx hh
     subst hx
     cases hh
     try simp only[w,seval,-Int.reduceToNat]
    ·dsimp only at hx hh
     obtain⟨rfl,hE⟩:=hx
     cases hh
     try simp only[aO,aG,aW,bX,bW]
     exact hE
 ·clear hh
  have hh:=ho1
  try simp only[w,seval,-Int.reduceToNat]
  refine sp aB hh (fun _ hh =>?_) (fun _ hh =>?_)
  ·cases hh
   try simp only[w,seval,-Int.reduceToNat]
   rw[ak]
   refine⟨_,rfl,?_⟩
   refine⟨?_,?_,?_⟩
   all_goals first|rfl|(simp only[w,seval,-Int.reduceToNat]<;>rfl)
  ·try simp only[w,seval,-Int.reduceToNat]
   refine sp aB hh (fun _ hh =>?_) (fun _ hh =>?_)
   ·cases hh
    try simp only[w,seval,-Int.reduceToNat]
    rw[ak]
    refine⟨_,rfl,?_⟩
    refine⟨?_,?_,?_⟩
    all_goals first|rfl|(simp only[w,seval,-Int.reduceToNat]<;>rfl)
   ·cases hh
    try simp only[w,seval,-Int.reduceToNat]
    rw[ak]
    refine⟨_,rfl,?_⟩
    refine⟨?_,?_,?_⟩
    all_goals first|rfl|(simp only[w,seval,-Int.reduceToNat]<;>rfl)
theorem wY:bE Tryz.prog 23 nM:=bE.of (mode := .clean) tok bK.none mixed Tryz.func23 (by kernel_rfl) ⟨by kernel_rfl,by kernel_rfl⟩ (fun _=>Nat.le_of_ble_eq_true (by kernel_rfl)) (fun x r h=>Jt x.1 x.2 r h)
noncomputable def um:=dI (cH (eZ (iC (eI .i64))) (cH (aI .i64) (dn (aI .i64)))) (fun x:(List (List Int))×Int×Int=>l9 x.1 x.2.1 x.2.2) (fun r:(List Int)×Int =>.clean (.tup [.sl false false r.1.length (ab (eI .i64) r.1),.int .i64 r.2]))
theorem Bx (p0:(List (List Int))) (p1:Int) (p2:Int):um none [.sl false false p0.length (ab (iC (eI .i64)) p0),.int .i64 p1,.int .i64 p2]=(l9 p0 p1 p2).map fun r:(List Int)×Int=>(.clean (.tup [.sl false false r.1.length (ab (eI .i64) r.1),.int .i64 r.2]),none):=aC _ _ _ (p0,p1,p2)
noncomputable def ql:Env:=(Am.ext aU 23 false nM)
theorem Jg:bK Tryz.prog ql:=(bK.none.add wY false)
theorem aV:type_of% (ai @w<|ai @ot<|@ql.eq_1):=⟨@w,@ot,@ql.eq_1⟩
theorem MH (p0:(List (List Int))) (p1:Int) (p2:Int) (r:(List Int)×Int) (hh:l9 p0 p1 p2=some r):aM .clean tab ql FU Tryz.f82 none [.sl false false p0.length (ab (iC (eI .i64)) p0),.int .i64 p1,.int .i64 p2]=some (.clean (.tup [.sl false false r.1.length (ab (eI .i64) r.1),.int .i64 r.2]),none):=by
 refine aq rfl Tryz.ntmps82 Tryz.results82 ?_
 unfold l9 at hh
 try simp only[aV,seval,-Int.reduceToNat]
 obtain⟨o1,ho1,hh⟩:=ae hh
 refine bA 0 (fun s t H e=>match s with|s32j1=>t 0=.sl false false p0.length (ab (iC (eI .i64)) p0)∧t 1=.int .i64 p1∧t 2=.int .i64 p2∧t 32=.bool s32j1) (fun s=>s=o1) ?_ ?_
 ·rintro s32j1 t H e Zj1 rfl
  try dsimp only at hh
  try simp only[aV,seval,-Int.reduceToNat,Zj1]
  refine sp aj hh (fun _ hh =>?_) (fun _ hh =>?_)
  ·cases hh
   try simp only[aV,seval,-Int.reduceToNat,Zj1]
  ·obtain⟨x3,hx3,hh⟩:=ae hh
   obtain⟨q4a,q4b,q4c,q4d,q4e⟩:=mk_one (eI .i64) hx3
   simp only[b6]at q4d
   try simp only[aV,seval,-Int.reduceToNat,Zj1,q4a,q4b,q4c,q4d,q4e]
   obtain⟨o24,ho24,hh⟩:=ae hh
   refine ax (fun s t H e=>match s with|(s37b,l8b)=>∃v8b:Nat,t 1=.int .i64 p1∧t 2=.int .i64 p2∧t 8=.buf 8 v8b 1 0 (l8b).length∧t 35=.sl false false p0.length (ab (iC (eI .i64)) p0)∧t 36=.int .i64 (p0.length:Int)∧t 37=.int .i64 s37b∧H 8=some ⟨v8b,3,ab (eI .i64) l8b,false,true,false⟩) (fun o x t H e=>match o with|(.inl l8bx)=>x=.exit 0∧∃v8bx:Nat,t 8=.buf 8 v8bx 1 0 (l8bx).length∧H 8=some ⟨v8bx,3,ab (eI .i64) l8bx,false,true,false⟩|(.inr r)=>x=.ret∧eW .clean tab none [.tmp 6,.tmp 7] ⟨t,H,e⟩=some (.clean (.tup [.sl false false r.1.length (ab (eI .i64) r.1),.int .i64 r.2]),none)) ho24 ?_ ?_ ?_
   ·refine⟨e,?_,?_,?_,?_,?_,?_,?_⟩
    all_goals first|rfl|(simp only[aV,seval,-Int.reduceToNat,Zj1,q4a,q4b,q4c,q4d,q4e]<;>rfl)
   ·rintro⟨s37b,l8b⟩ t H e ⟨v8b,Zb⟩ c hh
    simp only[oD]at hh
    try simp only[aV,seval,-Int.reduceToNat,q4a,q4b,q4c,q4d,q4e,Zb]
    refine sp aj hh (fun _ hh =>?_) (fun _ hh =>?_)
    ·obtain⟨x26,hx26,hh⟩:=ae hh
     have ax26:=bF (iC (eI .i64)) hx26
     simp only[b6]at ax26
     try simp only[aV,seval,-Int.reduceToNat,q4a,q4b,q4c,q4d,q4e,Zb,ax26]
     obtain⟨o27,ho27,hh⟩:=ae hh
     refine bA 0 (fun s t H e=>match s with|s50j5=>∃v8j5:Nat,t 1=.int .i64 p1∧t 2=.int .i64 p2∧t 8=.buf 8 v8j5 1 0 (l8b).length∧t 10=.sl false false x26.length (ab (eI .i64) x26)∧t 35=.sl false false p0.length (ab (iC (eI .i64)) p0)∧t 36=.int .i64 (p0.length:Int)∧t 37=.int .i64 s37b∧t 50=.bool s50j5∧H 8=some ⟨v8j5,3,ab (eI .i64) l8b,false,true,false⟩) (fun s=>s=o27) ?_ ?_
     ·rintro s50j5 t H e ⟨v8j5,Zj5⟩ rfl
      try dsimp only at hh
      try simp only[aV,seval,-Int.reduceToNat,q4a,q4b,q4c,q4d,q4e,ax26,Zj5]
      refine sp aj hh (fun _ hh =>?_) (fun _ hh =>?_)
      ·cases hh
       try simp only[aV,seval,-Int.reduceToNat,q4a,q4b,q4c,q4d,q4e,ax26,Zj5]
       refine pc ⟨rfl,?_⟩
       try simp only[aV,seval,-Int.reduceToNat,q4a,q4b,q4c,q4d,q4e,ax26,Zj5]
      ·try simp only[aV,seval,-Int.reduceToNat,q4a,q4b,q4c,q4d,q4e,ax26,Zj5]
       obtain⟨o35,ho35,hh⟩:=ae hh
       refine ax (fun s t H e=>match s with|(s53f,l8f)=>∃v8f:Nat,t 1=.int .i64 p1∧t 2=.int .i64 p2∧t 8=.buf 8 v8f 1 0 (l8f).length∧t 35=.sl false false p0.length (ab (iC (eI .i64)) p0)∧t 36=.int .i64 (p0.length:Int)∧t 37=.int .i64 s37b∧t 51=.sl false false x26.length (ab (eI .i64) x26)∧t 52=.int .i64 (x26.length:Int)∧t 53=.int .i64 s53f∧H 8=some ⟨v8f,3,ab (eI .i64) l8f,false,true,false⟩) (fun o x t H e=>match o with|l8fx=>x=.exit 2∧∃v8fx:Nat,t 1=.int .i64 p1∧t 2=.int .i64 p2∧t 8=.buf 8 v8fx 1 0 (l8fx).length∧t 35=.sl false false p0.length (ab (iC (eI .i64)) p0)∧t 36=.int .i64 (p0.length:Int)∧t 37=.int .i64 s37b∧H 8=some ⟨v8fx,3,ab (eI .i64) l8fx,false,true,false⟩) ho35 ?_ ?_ ?_
       ·refine⟨v8j5,?_,?_,?_,?_,?_,?_,?_,?_,?_,?_⟩
        all_goals first|rfl|(simp only[aV,seval,-Int.reduceToNat,q4a,q4b,q4c,q4d,q4e,ax26,Zj5]<;>rfl)
       ·rintro⟨s53f,l8f⟩ t H e ⟨v8f,Zf⟩ c hh
        simp only[jB]at hh
        try simp only[aV,seval,-Int.reduceToNat,q4a,q4b,q4c,q4d,q4e,ax26,Zf]
        refine sp aj hh (fun _ hh =>?_) (fun _ hh =>?_)
        ·obtain⟨x37,hx37,hh⟩:=ae hh
         have ax37:=bF (eI .i64) hx37
         simp only[b6]at ax37
         obtain⟨x38,hx38,hh⟩:=ae hh
         have ax38:=bF (eI .i64) hx38
         simp only[b6]at ax38
         obtain⟨x39,hx39,hh⟩:=ae hh
         have q40:=qo hx39
         have ax38:=bF (eI .i64) hx38
         simp only[b6]at ax38
         have p41:=qt (eI .i64) (x':=x39) (fo:=0) (cs:=[.int .i64 x39]) hx38 rfl (Nat.le_of_ble_eq_true rfl)
         simp only[b6,Nat.add_zero]at p41
         have up41:=p41
         simp only[putCells,List.length_cons,List.length_nil,Nat.zero_add,Nat.reduceAdd]at up41
         cases hh
         try simp only[aV,seval,-Int.reduceToNat,q4a,q4b,q4c,q4d,q4e,ax26,Zf,ax37,ax38,q40,ax38,p41,up41]
         refine gA ?_
         refine⟨v8f,?_,?_,?_,?_,?_,?_,?_,?_,?_,?_⟩
         all_goals first|rfl|(simp only[aV,seval,-Int.reduceToNat,q4a,q4b,q4c,q4d,q4e,ax26,Zf,ax37,ax38,q40,ax38,p41,up41]<;>rfl)
        ·cases hh
         try simp only[aV,seval,-Int.reduceToNat,q4a,q4b,q4c,q4d,q4e,ax26,Zf]
         refine iS ?_
         refine⟨rfl,⟨v8f,?_,?_,?_,?_,?_,?_,?_⟩⟩
         all_goals first|rfl|(simp only[aV,seval,-Int.reduceToNat,q4a,q4b,q4c,q4d,q4e,ax26,Zf]<;>rfl)
       ·rintro x t H e hx
        obtain⟨l8fx,rfl⟩:∃z,z=o35:=⟨_,rfl⟩
        dsimp only at hx hh
        obtain⟨rfl,⟨v8fx,Zfx⟩⟩:=hx
        cases hh
        try simp only[aV,seval,-Int.reduceToNat,q4a,q4b,q4c,q4d,q4e,ax26,Zfx]
        refine gA ?_
        refine⟨v8fx,?_,?_,?_,?_,?_,?_,?_⟩
        all_goals first|rfl|(simp only[aV,seval,-Int.reduceToNat,q4a,q4b,q4c,q4d,q4e,ax26,Zfx]<;>rfl)
     ·clear hh
      have hh:=ho27
      try simp only[aV,seval,-Int.reduceToNat,q4a,q4b,q4c,q4d,q4e,Zb,ax26]
      refine sp aB hh (fun _ hh =>?_) (fun _ hh =>?_)
      ·cases hh
       try simp only[aV,seval,-Int.reduceToNat,q4a,q4b,q4c,q4d,q4e,Zb,ax26]
       rw[ak]
       refine⟨_,rfl,?_⟩
       refine⟨v8b,?_,?_,?_,?_,?_,?_,?_,?_,?_⟩
       all_goals first|rfl|(simp only[aV,seval,-Int.reduceToNat,q4a,q4b,q4c,q4d,q4e,Zb,ax26]<;>rfl)
      ·obtain⟨r43,hr43,hh⟩:=ae hh
       cases hh
       try simp only[aV,seval,-Int.reduceToNat,q4a,q4b,q4c,q4d,q4e,Zb,ax26,hr43]
       rw[ak]
       refine⟨_,rfl,?_⟩
       refine⟨v8b,?_,?_,?_,?_,?_,?_,?_,?_,?_⟩
       all_goals first|rfl|(simp only[aV,seval,-Int.reduceToNat,q4a,q4b,q4c,q4d,q4e,Zb,ax26,hr43]<;>rfl)
    ·cases hh
     try simp only[aV,seval,-Int.reduceToNat,q4a,q4b,q4c,q4d,q4e,Zb]
     refine iS ?_
     refine⟨rfl,⟨v8b,?_,?_⟩⟩
     all_goals first|rfl|(simp only[aV,seval,-Int.reduceToNat,q4a,q4b,q4c,q4d,q4e,Zb]<;>rfl)
   ·rintro x t H e hx
    rcases o24 with l8bx|rb
    ·dsimp only at hx hh
     obtain⟨rfl,⟨v8bx,Zbx⟩⟩:=hx
     cases hh
     try simp only[aV,seval,-Int.reduceToNat,q4a,q4b,q4c,q4d,q4e,Zbx]
    ·dsimp only at hx hh
     obtain⟨rfl,hE⟩:=hx
     cases hh
     try simp only[aO,aG,aW,bX,bW]
     exact hE
 ·clear hh
  have hh:=ho1
  try simp only[aV,seval,-Int.reduceToNat]
  refine sp aB hh (fun _ hh =>?_) (fun _ hh =>?_)
  ·cases hh
   try simp only[aV,seval,-Int.reduceToNat]
   rw[ak]
   refine⟨_,rfl,?_⟩
   refine⟨?_,?_,?_,?_⟩
   all_goals first|rfl|(simp only[aV,seval,-Int.reduceToNat]<;>rfl)
  ·try simp only[aV,seval,-Int.reduceToNat]
   refine sp aB hh (fun _ hh =>?_) (fun _ hh =>?_)
   ·cases hh
    try simp only[aV,seval,-Int.reduceToNat]
    rw[ak]
    refine⟨_,rfl,?_⟩
    refine⟨?_,?_,?_,?_⟩
    all_goals first|rfl|(simp only[aV,seval,-Int.reduceToNat]<;>rfl)
   ·try simp only[aV,seval,-Int.reduceToNat]
    refine sp aB hh (fun _ hh =>?_) (fun _ hh =>?_)
    ·cases hh
     try simp only[aV,seval,-Int.reduceToNat]
     rw[ak]
     refine⟨_,rfl,?_⟩
     refine⟨?_,?_,?_,?_⟩
     all_goals first|rfl|(simp only[aV,seval,-Int.reduceToNat]<;>rfl)
    ·try simp only[aV,seval,-Int.reduceToNat]
     refine sp aB hh (fun _ hh =>?_) (fun _ hh =>?_)
     ·cases hh
      try simp only[aV,seval,-Int.reduceToNat]
      rw[ak]
      refine⟨_,rfl,?_⟩
      refine⟨?_,?_,?_,?_⟩
      all_goals first|rfl|(simp only[aV,seval,-Int.reduceToNat]<;>rfl)
     ·cases hh
      try simp only[aV,seval,-Int.reduceToNat]
      rw[ak]
      refine⟨_,rfl,?_⟩
      refine⟨?_,?_,?_,?_⟩
      all_goals first|rfl|(simp only[aV,seval,-Int.reduceToNat]<;>rfl)
theorem JQ:bE Tryz.prog 82 um:=bE.of (mode := .clean) tok Jg mixed Tryz.func82 (by kernel_rfl) ⟨by kernel_rfl,by kernel_rfl⟩ (fun _=>Nat.le_of_ble_eq_true (by kernel_rfl)) (fun x r h=>MH x.1 x.2.1 x.2.2 r h)
noncomputable def nB:=dI (dn (eZ (eI .i64))) (fun x:(List Int)=>jR x) (fun r:(List Int) =>.clean (.clo 156 0 [.ip [.sl false false r.length (ab (eI .i64) r)]]))
theorem tQ (p0:(List Int)):nB none [.sl false false p0.length (ab (eI .i64) p0)]=(jR p0).map fun r:(List Int)=>(.clean (.clo 156 0 [.ip [.sl false false r.length (ab (eI .i64) r)]]),none):=aC _ _ _ p0
theorem Az:bE Tryz.prog 116 nB:=Tz
noncomputable def dq:=dI (dn (TQ 156 0 (dn (TR (iC (eI .i64)))))) (fun x:(List Int)=>cd x) (fun r:(List Int) =>.fresh 3 1 r.length (ab (eI .i64) r))
theorem eR (p0:(List Int)):dq none [.clo 156 0 [.ip [.sl false false p0.length (ab (eI .i64) p0)]]]=(cd p0).map fun r:(List Int)=>(.fresh 3 1 r.length (ab (eI .i64) r),none):=aC _ _ _ p0
theorem iU:bE Tryz.prog 115 dq:=Ts
noncomputable def rR:=dI (dn (eZ (eI .i64))) (fun x:(List Int)=>jk x) (fun r:Bool =>.clean (.bool r))
theorem zj (p0:(List Int)):rR none [.sl false false p0.length (ab (eI .i64) p0)]=(jk p0).map fun r:Bool=>(.clean (.bool r),none):=aC _ _ _ (p0)
noncomputable def nX:Env:=(Am.ext (Am.ext (Am.ext aU 70 true ij) 115 false dq) 116 false nB)
theorem FA:bK Tryz.prog nX:=(((bK.none.add nI true).add iU false).add Az false)
theorem Kd:type_of% (ai @w<|ai @eR<|ai @tQ<|@nX.eq_1):=⟨@w,@eR,@tQ,@nX.eq_1⟩
theorem Ju (p0:(List Int)) (r:Bool) (hh:jk p0=some r):aM .clean tab nX FU Tryz.f83 none [.sl false false p0.length (ab (eI .i64) p0)]=some (.clean (.bool r),none):=by
 refine aq rfl Tryz.ntmps83 Tryz.results83 ?_
 unfold jk at hh
 obtain⟨r1,hr1,hh⟩:=ae hh
 obtain⟨r2,hr2,hh⟩:=ae hh
 have i3:=pg [] [] r2
 try simp only[List.nil_append,List.append_nil,List.length_nil,aZ,List.length_set,b6]at i3
 obtain⟨r4,hr4,hh⟩:=ae hh
 cases hh
 try simp only[Kd,seval,-Int.reduceToNat,hr1,hr2,i3,hr4]
theorem F4:bE Tryz.prog 83 rR:=bE.of (mode := .clean) tok FA mixed Tryz.func83 (by kernel_rfl) ⟨by kernel_rfl,by kernel_rfl⟩ (fun _=>Nat.le_of_ble_eq_true (by kernel_rfl)) (fun x r h=>Ju x r h)
noncomputable def uk:=dI (cH (cI di) (cH (eZ (eI .i64)) (cH (eZ (iC (eI .i64))) (cH (eZ (eI .i64)) (cH (aI .i64) (dn (aI .i64))))))) (fun x:au×(List Int)×(List (List Int))×(List Int)×Int×Int=>kL x.1 x.2.1 x.2.2.1 x.2.2.2.1 x.2.2.2.2.1 x.2.2.2.2.2) (fun r:(List Int)×Int =>.clean (.tup [.sl false false r.1.length (ab (eI .i64) r.1),.int .i64 r.2]))
theorem Bw (p0_0:(List av)) (p1:(List Int)) (p2:(List (List Int))) (p3:(List Int)) (p4:Int) (p5:Int):uk none [.agg [.sl false false p0_0.length (ab al p0_0)],.sl false false p1.length (ab (eI .i64) p1),.sl false false p2.length (ab (iC (eI .i64)) p2),.sl false false p3.length (ab (eI .i64) p3),.int .i64 p4,.int .i64 p5]=(kL (au.mk p0_0) p1 p2 p3 p4 p5).map fun r:(List Int)×Int=>(.clean (.tup [.sl false false r.1.length (ab (eI .i64) r.1),.int .i64 r.2]),none):=aC _ _ _ ((au.mk p0_0),p1,p2,p3,p4,p5)
noncomputable def qk:Env:=(Am.ext (Am.ext (Am.ext (Am.ext aU 21 false pO) 82 false um) 83 false rR) 84 false mn)
theorem Jf:bK Tryz.prog qk:=((((bK.none.add zc false).add JQ false).add F4 false).add vd false)
theorem bU:type_of% (ai @w<|ai @mZ<|ai @Bx<|ai @zj<|ai @mJ<|@qk.eq_1):=⟨@w,@mZ,@Bx,@zj,@mJ,@qk.eq_1⟩
theorem MG (p0:au) (p1:(List Int)) (p2:(List (List Int))) (p3:(List Int)) (p4:Int) (p5:Int) (r:(List Int)×Int) (hh:kL p0 p1 p2 p3 p4 p5=some r):aM .clean tab qk FU Tryz.f47 none [.agg [.sl false false p0.ag.length (ab al p0.ag)],.sl false false p1.length (ab (eI .i64) p1),.sl false false p2.length (ab (iC (eI .i64)) p2),.sl false false p3.length (ab (eI .i64) p3),.int .i64 p4,.int .i64 p5]=some (.clean (.tup [.sl false false r.1.length (ab (eI .i64) r.1),.int .i64 r.2]),none):=by
 refine aq rfl Tryz.ntmps47 Tryz.results47 ?_
 unfold kL at hh
 obtain⟨r1,hr1,hh⟩:=ae hh
 try simp only[bU,seval,-Int.reduceToNat,hr1]
 refine sp aj hh (fun _ hh =>?_) (fun _ hh =>?_)
 ·cases hh
  try simp only[bU,seval,-Int.reduceToNat,hr1]
 ·try simp only[bU,seval,-Int.reduceToNat,hr1]
  obtain⟨o3,ho3,hh⟩:=ae hh
  refine bA 0 (fun s t H e=>match s with|s29j1=>∃v6j1:Nat,t 1=.sl false false p1.length (ab (eI .i64) p1)∧t 2=.sl false false p2.length (ab (iC (eI .i64)) p2)∧t 3=.sl false false p3.length (ab (eI .i64) p3)∧t 6=.ptr 6 v6j1 0∧t 14=.sl false false r1.1.length (ab (eI .i64) r1.1)∧t 29=.bool s29j1∧H 6=some ⟨v6j1,24,[.sl false false p0.ag.length (ab al p0.ag)],false,false,false⟩) (fun s=>s=o3) ?_ ?_
  ·rintro s29j1 t H e ⟨v6j1,Zj1⟩ rfl
   try dsimp only at hh
   try simp only[bU,seval,-Int.reduceToNat,hr1,Zj1]
   refine sp aj hh (fun _ hh =>?_) (fun _ hh =>?_)
   ·cases hh
    try simp only[bU,seval,-Int.reduceToNat,hr1,Zj1]
   ·obtain⟨r5,hr5,hh⟩:=ae hh
    try simp only[bU,seval,-Int.reduceToNat,hr1,Zj1,hr5]
    refine sp aj hh (fun _ hh =>?_) (fun _ hh =>?_)
    ·cases hh
     try simp only[bU,seval,-Int.reduceToNat,hr1,Zj1,hr5]
    ·try simp only[bU,seval,-Int.reduceToNat,hr1,Zj1,hr5]
     obtain⟨o14,ho14,hh⟩:=ae hh
     refine ax (fun s t H e=>match s with|s47b=>∃v6b:Nat,t 2=.sl false false p2.length (ab (iC (eI .i64)) p2)∧t 3=.sl false false p3.length (ab (eI .i64) p3)∧t 6=.ptr 6 v6b 0∧t 14=.sl false false r1.1.length (ab (eI .i64) r1.1)∧t 45=.sl false false p1.length (ab (eI .i64) p1)∧t 46=.int .i64 (p1.length:Int)∧t 47=.int .i64 s47b∧H 6=some ⟨v6b,24,[.sl false false p0.ag.length (ab al p0.ag)],false,false,false⟩) (fun o x t H e=>match o with|(.inl _)=>x=.exit 1∧t 14=.sl false false r1.1.length (ab (eI .i64) r1.1)|(.inr r)=>x=.ret∧eW .clean tab none [.tmp 12,.tmp 13] ⟨t,H,e⟩=some (.clean (.tup [.sl false false r.1.length (ab (eI .i64) r.1),.int .i64 r.2]),none)) ho14 ?_ ?_ ?_
     ·refine⟨v6j1,?_,?_,?_,?_,?_,?_,?_,?_⟩
      all_goals first|rfl|(simp only[bU,seval,-Int.reduceToNat,hr1,Zj1,hr5]<;>rfl)
     ·rintro s47b t H e ⟨v6b,Zb⟩ c hh
      simp only[lK]at hh
      try simp only[bU,seval,-Int.reduceToNat,hr1,hr5,Zb]
      refine sp aj hh (fun _ hh =>?_) (fun _ hh =>?_)
      ·obtain⟨x16,hx16,hh⟩:=ae hh
       have ax16:=bF (eI .i64) hx16
       simp only[b6]at ax16
       obtain⟨x17,hx17,hh⟩:=ae hh
       have ax17:=bF (iC (eI .i64)) hx17
       simp only[b6]at ax17
       obtain⟨r18,hr18,hh⟩:=ae hh
       obtain⟨x19,hx19,hh⟩:=ae hh
       have ax19:=bF (eI .i64) hx19
       simp only[b6]at ax19
       obtain⟨r20,hr20,hh⟩:=ae hh
       try simp only[bU,seval,-Int.reduceToNat,hr1,hr5,Zb,ax16,ax17,hr18,ax19,hr20]
       refine cf (by kernel_rfl) ?_
       try simp only[bU,seval,-Int.reduceToNat,hr1,hr5,Zb,ax16,ax17,hr18,ax19,hr20]
       refine sp aj hh (fun _ hh =>?_) (fun _ hh =>?_)
       ·cases hh
        try simp only[bU,seval,-Int.reduceToNat,hr1,hr5,Zb,ax16,ax17,hr18,ax19,hr20]
        refine pc ⟨rfl,?_⟩
        try simp only[bU,seval,-Int.reduceToNat,hr1,hr5,Zb,ax16,ax17,hr18,ax19,hr20]
       ·cases hh
        try simp only[bU,seval,-Int.reduceToNat,hr1,hr5,Zb,ax16,ax17,hr18,ax19,hr20]
        refine gA ?_
        refine⟨v6b,?_,?_,?_,?_,?_,?_,?_,?_⟩
        all_goals first|rfl|(simp only[bU,seval,-Int.reduceToNat,hr1,hr5,Zb,ax16,ax17,hr18,ax19,hr20]<;>rfl)
      ·cases hh
       try simp only[bU,seval,-Int.reduceToNat,hr1,hr5,Zb]
       refine iS ?_
       refine⟨rfl,?_⟩
       all_goals first|rfl|(simp only[bU,seval,-Int.reduceToNat,hr1,hr5,Zb]<;>rfl)
     ·rintro x t H e hx
      rcases o14 with _|rb
      ·dsimp only at hx hh
       obtain⟨rfl,Zbx⟩:=hx
       cases hh
       try simp only[bU,seval,-Int.reduceToNat,hr1,hr5,Zbx]
      ·dsimp only at hx hh
       obtain⟨rfl,hE⟩:=hx
       cases hh
       try simp only[aO,aG,aW,bX,bW]
       exact hE
  ·clear hh
   have hh:=ho3
   try simp only[bU,seval,-Int.reduceToNat,hr1]
   refine sp aB hh (fun _ hh =>?_) (fun _ hh =>?_)
   ·cases hh
    try simp only[bU,seval,-Int.reduceToNat,hr1]
    rw[ak]
    refine⟨_,rfl,?_⟩
    refine⟨0,?_,?_,?_,?_,?_,?_,?_⟩
    all_goals first|rfl|(simp only[bU,seval,-Int.reduceToNat,hr1]<;>rfl)
   ·cases hh
    try simp only[bU,seval,-Int.reduceToNat,hr1]
    rw[ak]
    refine⟨_,rfl,?_⟩
    refine⟨0,?_,?_,?_,?_,?_,?_,?_⟩
    all_goals first|rfl|(simp only[bU,seval,-Int.reduceToNat,hr1]<;>rfl)
theorem JP:bE Tryz.prog 47 uk:=bE.of (mode := .clean) tok Jf mixed Tryz.func47 (by kernel_rfl) ⟨by kernel_rfl,by kernel_rfl⟩ (fun _=>Nat.le_of_ble_eq_true (by kernel_rfl)) (fun x r h=>MG x.1 x.2.1 x.2.2.1 x.2.2.2.1 x.2.2.2.2.1 x.2.2.2.2.2 r h)
theorem YT:TI Tryz.prog 85 (3,1,8):=SL Tryz.YV Tryz.func85 ⟨by kernel_rfl,by kernel_rfl⟩
noncomputable def uj:=dI (cH (eZ (eI .i64)) (dn (aI .i64))) (fun x:(List Int)×Int=>kK x.1 x.2) (fun r:(List Int)×Int =>.clean (.tup [.sl false false r.1.length (ab (eI .i64) r.1),.int .i64 r.2]))
theorem Bv (p0:(List Int)) (p1:Int):uj none [.sl false false p0.length (ab (eI .i64) p0),.int .i64 p1]=(kK p0 p1).map fun r:(List Int)×Int=>(.clean (.tup [.sl false false r.1.length (ab (eI .i64) r.1),.int .i64 r.2]),none):=aC _ _ _ (p0,p1)
noncomputable def qh:Env:=(Am.D3 85 (3,1,8) (Am.ext aU 23 false nM))
theorem Je:bK Tryz.prog qh:=(bK.D3 (bK.none.add wY false) YT)
theorem cz:type_of% (ai @w<|ai @ot<|@qh.eq_1):=⟨@w,@ot,@qh.eq_1⟩
theorem MF (p0:(List Int)) (p1:Int) (r:(List Int)×Int) (hh:kK p0 p1=some r):aM .clean tab qh FU Tryz.f48 none [.sl false false p0.length (ab (eI .i64) p0),.int .i64 p1]=some (.clean (.tup [.sl false false r.1.length (ab (eI .i64) r.1),.int .i64 r.2]),none):=by
 refine aq rfl Tryz.ntmps48 Tryz.results48 ?_
 unfold kK at hh
 obtain⟨r1,hr1,hh⟩:=ae hh
 try simp only[cz,ne_eq,not_false_eq_true,seval,-Int.reduceToNat,hr1]
 refine sp aj hh (fun _ hh =>?_) (fun _ hh =>?_)
 ·cases hh
  try simp only[cz,ne_eq,not_false_eq_true,seval,-Int.reduceToNat,hr1]
 ·obtain⟨x3,hx3,hh⟩:=ae hh
  obtain⟨q4a,q4b,q4c,q4d,q4e,q4f,q4g⟩:=YX (eI .i64) hx3
  simp only[b6]at q4d
  try simp only[cz,ne_eq,not_false_eq_true,seval,-Int.reduceToNat,hr1,q4a,q4b,q4c,q4d,q4e,q4f,q4g]
  obtain⟨o18,ho18,hh⟩:=ae hh
  refine ax (fun s t H e=>match s with|(s20a,l6a,l7a)=>∃v6a:Nat,∃v7a:Nat,t 6=.buf 6 v6a 1 0 (l6a).length∧t 7=.buf 7 v7a 1 0 (l7a).length∧t 18=.sl false false p0.length (ab (eI .i64) p0)∧t 19=.int .i64 (p0.length:Int)∧t 20=.int .i64 s20a∧H 6=some ⟨v6a,3,ab (eI .i64) l6a,false,true,false⟩∧H 7=some ⟨v7a,3,ab (eI .i64) l7a,false,true,false⟩) (fun o x t H e=>match o with|l6ax=>x=.exit 0∧∃v6ax:Nat,t 6=.buf 6 v6ax 1 0 (l6ax).length∧H 6=some ⟨v6ax,3,ab (eI .i64) l6ax,false,true,false⟩) ho18 ?_ ?_ ?_
  ·refine⟨2,3,?_,?_,?_,?_,?_,?_,?_⟩
   all_goals first|rfl|(simp only[cz,ne_eq,not_false_eq_true,seval,-Int.reduceToNat,hr1,q4a,q4b,q4c,q4d,q4e,q4f,q4g]<;>rfl)
  ·rintro⟨s20a,l6a,l7a⟩ t H e ⟨v6a,v7a,Za⟩ c hh
   simp only[jz]at hh
   try simp only[cz,ne_eq,not_false_eq_true,seval,-Int.reduceToNat,hr1,q4a,q4b,q4c,q4d,q4e,q4f,q4g,Za]
   refine sp aj hh (fun _ hh =>?_) (fun _ hh =>?_)
   ·obtain⟨x20,hx20,hh⟩:=ae hh
    have ax20:=bF (eI .i64) hx20
    simp only[b6]at ax20
    try simp only[cz,ne_eq,not_false_eq_true,seval,-Int.reduceToNat,hr1,q4a,q4b,q4c,q4d,q4e,q4f,q4g,Za,ax20]
    obtain⟨o24,ho24,hh⟩:=ae hh
    refine ax (fun s t H e=>match s with|(s9c,s10c)=>∃v6c:Nat,∃v7c:Nat,t 6=.buf 6 v6c 1 0 (l6a).length∧t 7=.buf 7 v7c 1 0 (l7a).length∧t 9=.int .i64 s9c∧t 10=.int .i64 s10c∧t 18=.sl false false p0.length (ab (eI .i64) p0)∧t 19=.int .i64 (p0.length:Int)∧t 20=.int .i64 s20a∧H 6=some ⟨v6c,3,ab (eI .i64) l6a,false,true,false⟩∧H 7=some ⟨v7c,3,ab (eI .i64) l7a,false,true,false⟩) (fun o x t H e=>match o with|(s9cx,s10cx)=>x=.exit 2∧∃v6cx:Nat,∃v7cx:Nat,t 6=.buf 6 v6cx 1 0 (l6a).length∧t 7=.buf 7 v7cx 1 0 (l7a).length∧t 9=.int .i64 s9cx∧t 10=.int .i64 s10cx∧t 18=.sl false false p0.length (ab (eI .i64) p0)∧t 19=.int .i64 (p0.length:Int)∧t 20=.int .i64 s20a∧H 6=some ⟨v6cx,3,ab (eI .i64) l6a,false,true,false⟩∧H 7=some ⟨v7cx,3,ab (eI .i64) l7a,false,true,false⟩) ho24 ?_ ?_ ?_
    ·refine⟨v6a,v7a,?_,?_,?_,?_,?_,?_,?_,?_,?_⟩
     all_goals first|rfl|(simp only[cz,ne_eq,not_false_eq_true,seval,-Int.reduceToNat,hr1,q4a,q4b,q4c,q4d,q4e,q4f,q4g,Za,ax20]<;>rfl)
    ·rintro⟨s9c,s10c⟩ t H e ⟨v6c,v7c,Zc⟩ c hh
     simp only[jA]at hh
     try simp only[cz,ne_eq,not_false_eq_true,seval,-Int.reduceToNat,hr1,q4a,q4b,q4c,q4d,q4e,q4f,q4g,ax20,Zc]
     refine sp bd hh (fun _ hh =>?_) (fun _ hh =>?_)
     ·obtain⟨x26,hx26,hh⟩:=ae hh
      have ax26:=bF (eI .i64) hx26
      simp only[b6]at ax26
      try simp only[cz,ne_eq,not_false_eq_true,seval,-Int.reduceToNat,hr1,q4a,q4b,q4c,q4d,q4e,q4f,q4g,ax20,Zc,ax26]
      refine sp aj hh (fun _ hh =>?_) (fun _ hh =>?_)
      ·cases hh
       try simp only[cz,ne_eq,not_false_eq_true,seval,-Int.reduceToNat,hr1,q4a,q4b,q4c,q4d,q4e,q4f,q4g,ax20,Zc,ax26]
       refine gA ?_
       refine⟨v6c,v7c,?_,?_,?_,?_,?_,?_,?_,?_,?_⟩
       all_goals first|rfl|(simp only[cz,ne_eq,not_false_eq_true,seval,-Int.reduceToNat,hr1,q4a,q4b,q4c,q4d,q4e,q4f,q4g,ax20,Zc,ax26]<;>rfl)
      ·cases hh
       try simp only[cz,ne_eq,not_false_eq_true,seval,-Int.reduceToNat,hr1,q4a,q4b,q4c,q4d,q4e,q4f,q4g,ax20,Zc,ax26]
       refine iS ?_
       refine⟨rfl,⟨v6c,v7c,?_,?_,?_,?_,?_,?_,?_,?_,?_⟩⟩
       all_goals first|rfl|(simp only[cz,ne_eq,not_false_eq_true,seval,-Int.reduceToNat,hr1,q4a,q4b,q4c,q4d,q4e,q4f,q4g,ax20,Zc,ax26]<;>rfl)
     ·cases hh
      try simp only[cz,ne_eq,not_false_eq_true,seval,-Int.reduceToNat,hr1,q4a,q4b,q4c,q4d,q4e,q4f,q4g,ax20,Zc]
      refine iS ?_
      refine⟨rfl,⟨v6c,v7c,?_,?_,?_,?_,?_,?_,?_,?_,?_⟩⟩
      all_goals first|rfl|(simp only[cz,ne_eq,not_false_eq_true,seval,-Int.reduceToNat,hr1,q4a,q4b,q4c,q4d,q4e,q4f,q4g,ax20,Zc]<;>rfl)
    ·rintro x t H e hx
     rcases o24 with⟨s9cx,s10cx⟩
     dsimp only at hx hh
     obtain⟨rfl,⟨v6cx,v7cx,Zcx⟩⟩:=hx
     obtain⟨x28,hx28,hh⟩:=ae hh
     obtain⟨q29a,q29b,q29c,q29d⟩:=fa (eI .i64) hx28
     simp only[b6]at q29b
     obtain⟨x30,hx30,hh⟩:=ae hh
     obtain⟨q31a,q31b,q31c,q31d,q31e⟩:=Xf (eI .i64) hx30
     simp only[b6]at q31e
     cases hh
     try simp only[cz,ne_eq,not_false_eq_true,seval,-Int.reduceToNat,hr1,q4a,q4b,q4c,q4d,q4e,q4f,q4g,ax20,Zcx,q29a,q29b,q29c,q29d,q31a,q31b,q31c,q31d,q31e]
     refine gA ?_
     refine⟨e,e,?_,?_,?_,?_,?_,?_,?_⟩
     all_goals first|rfl|(simp only[cz,ne_eq,not_false_eq_true,seval,-Int.reduceToNat,hr1,q4a,q4b,q4c,q4d,q4e,q4f,q4g,ax20,Zcx,q29a,q29b,q29c,q29d,q31a,q31b,q31c,q31d,q31e]<;>rfl)
   ·cases hh
    try simp only[cz,ne_eq,not_false_eq_true,seval,-Int.reduceToNat,hr1,q4a,q4b,q4c,q4d,q4e,q4f,q4g,Za]
    refine iS ?_
    refine⟨rfl,⟨v6a,?_,?_⟩⟩
    all_goals first|rfl|(simp only[cz,ne_eq,not_false_eq_true,seval,-Int.reduceToNat,hr1,q4a,q4b,q4c,q4d,q4e,q4f,q4g,Za]<;>rfl)
  ·rintro x t H e hx
   obtain⟨l6ax,rfl⟩:∃z,z=o18:=⟨_,rfl⟩
   dsimp only at hx hh
   obtain⟨rfl,⟨v6ax,Zax⟩⟩:=hx
   cases hh
   try simp only[cz,ne_eq,not_false_eq_true,seval,-Int.reduceToNat,hr1,q4a,q4b,q4c,q4d,q4e,q4f,q4g,Zax]
theorem JO:bE Tryz.prog 48 uj:=bE.of (mode := .clean) tok Je mixed Tryz.func48 (by kernel_rfl) ⟨by kernel_rfl,by kernel_rfl⟩ (fun _=>Nat.le_of_ble_eq_true (by kernel_rfl)) (fun x r h=>MF x.1 x.2 r h)
noncomputable def mf:=dI (cH (cI di) (cH (eZ (eI .i64)) (cH (eZ (iC (eI .i64))) (cH (eZ (eI .i64)) (cH (eZ (eI .i64)) (dn (aI .i64))))))) (fun x:au×(List Int)×(List (List Int))×(List Int)×(List Int)×Int=>fv x.1 x.2.1 x.2.2.1 x.2.2.2.1 x.2.2.2.2.1 x.2.2.2.2.2) (fun r:(List Int)×Int =>.clean (.tup [.sl false false r.1.length (ab (eI .i64) r.1),.int .i64 r.2]))
theorem jN (p0_0:(List av)) (p1:(List Int)) (p2:(List (List Int))) (p3:(List Int)) (p4:(List Int)) (p5:Int):mf none [.agg [.sl false false p0_0.length (ab al p0_0)],.sl false false p1.length (ab (eI .i64) p1),.sl false false p2.length (ab (iC (eI .i64)) p2),.sl false false p3.length (ab (eI .i64) p3),.sl false false p4.length (ab (eI .i64) p4),.int .i64 p5]=(fv (au.mk p0_0) p1 p2 p3 p4 p5).map fun r:(List Int)×Int=>(.clean (.tup [.sl false false r.1.length (ab (eI .i64) r.1),.int .i64 r.2]),none):=aC _ _ _ ((au.mk p0_0),p1,p2,p3,p4,p5)
noncomputable def mq:Env:=(Am.ext (Am.ext (Am.ext aU 42 false mg) 47 false uk) 48 false uj)
theorem DM:bK Tryz.prog mq:=(((bK.none.add u5 false).add JP false).add JO false)
theorem dz:type_of% (ai @w<|ai @mE<|ai @Bw<|ai @Bv<|@mq.eq_1):=⟨@w,@mE,@Bw,@Bv,@mq.eq_1⟩
theorem FI (p0:au) (p1:(List Int)) (p2:(List (List Int))) (p3:(List Int)) (p4:(List Int)) (p5:Int) (r:(List Int)×Int) (hh:fv p0 p1 p2 p3 p4 p5=some r):aM .clean tab mq FU Tryz.f15 none [.agg [.sl false false p0.ag.length (ab al p0.ag)],.sl false false p1.length (ab (eI .i64) p1),.sl false false p2.length (ab (iC (eI .i64)) p2),.sl false false p3.length (ab (eI .i64) p3),.sl false false p4.length (ab (eI .i64) p4),.int .i64 p5]=some (.clean (.tup [.sl false false r.1.length (ab (eI .i64) r.1),.int .i64 r.2]),none):=by
 refine aq rfl Tryz.ntmps15 Tryz.results15 ?_
 unfold fv at hh
 obtain⟨r1,hr1,hh⟩:=ae hh
 try simp only[dz,seval,-Int.reduceToNat,hr1]
 refine sp aj hh (fun _ hh =>?_) (fun _ hh =>?_)
 ·cases hh
  try simp only[dz,seval,-Int.reduceToNat,hr1]
 ·obtain⟨r3,hr3,hh⟩:=ae hh
  try simp only[dz,seval,-Int.reduceToNat,hr1,hr3]
  refine sp aj hh (fun _ hh =>?_) (fun _ hh =>?_)
  ·cases hh
   try simp only[dz,seval,-Int.reduceToNat,hr1,hr3]
  ·obtain⟨r5,hr5,hh⟩:=ae hh
   try simp only[dz,seval,-Int.reduceToNat,hr1,hr3,hr5]
   obtain⟨o11,ho11,hh⟩:=ae hh
   refine ax (fun s t H e=>match s with|(s46a,l18a)=>∃v18a:Nat,t 4=.sl false false p4.length (ab (eI .i64) p4)∧t 18=.buf 18 v18a 1 0 (l18a).length∧t 44=.sl false false r5.1.length (ab (eI .i64) r5.1)∧t 45=.int .i64 (r5.1.length:Int)∧t 46=.int .i64 s46a∧H 18=some ⟨v18a,3,ab (eI .i64) l18a,false,true,false⟩) (fun o x t H e=>match o with|l18ax=>x=.exit 0∧∃v18ax:Nat,t 18=.buf 18 v18ax 1 0 (l18ax).length∧H 18=some ⟨v18ax,3,ab (eI .i64) l18ax,false,true,false⟩) ho11 ?_ ?_ ?_
   ·refine⟨5,?_,?_,?_,?_,?_,?_⟩
    all_goals first|rfl|(simp only[dz,seval,-Int.reduceToNat,hr1,hr3,hr5]<;>rfl)
   ·rintro⟨s46a,l18a⟩ t H e ⟨v18a,Za⟩ c hh
    simp only[kZ]at hh
    try simp only[dz,seval,-Int.reduceToNat,hr1,hr3,hr5,Za]
    refine sp aj hh (fun _ hh =>?_) (fun _ hh =>?_)
    ·obtain⟨x13,hx13,hh⟩:=ae hh
     have ax13:=bF (eI .i64) hx13
     simp only[b6]at ax13
     obtain⟨x14,hx14,hh⟩:=ae hh
     have ax14:=bF (eI .i64) hx14
     simp only[b6]at ax14
     obtain⟨x15,hx15,hh⟩:=ae hh
     obtain⟨q16a,q16b,q16c,q16d⟩:=fa (eI .i64) hx15
     simp only[b6]at q16b
     cases hh
     try simp only[dz,seval,-Int.reduceToNat,hr1,hr3,hr5,Za,ax13,ax14,q16a,q16b,q16c,q16d]
     refine gA ?_
     refine⟨e+1+1,?_,?_,?_,?_,?_,?_⟩
     all_goals first|rfl|(simp only[dz,seval,-Int.reduceToNat,hr1,hr3,hr5,Za,ax13,ax14,q16a,q16b,q16c,q16d]<;>rfl)
    ·cases hh
     try simp only[dz,seval,-Int.reduceToNat,hr1,hr3,hr5,Za]
     refine iS ?_
     refine⟨rfl,⟨v18a,?_,?_⟩⟩
     all_goals first|rfl|(simp only[dz,seval,-Int.reduceToNat,hr1,hr3,hr5,Za]<;>rfl)
   ·rintro x t H e hx
    obtain⟨l18ax,rfl⟩:∃z,z=o11:=⟨_,rfl⟩
    dsimp only at hx hh
    obtain⟨rfl,⟨v18ax,Zax⟩⟩:=hx
    cases hh
    try simp only[dz,seval,-Int.reduceToNat,hr1,hr3,hr5,Zax]
theorem uY:bE Tryz.prog 15 mf:=bE.of (mode := .clean) tok DM mixed Tryz.func15 (by kernel_rfl) ⟨by kernel_rfl,by kernel_rfl⟩ (fun _=>Nat.le_of_ble_eq_true (by kernel_rfl)) (fun x r h=>FI x.1 x.2.1 x.2.2.1 x.2.2.2.1 x.2.2.2.2.1 x.2.2.2.2.2 r h)
noncomputable def ud:=dI (WJ) (fun x:Unit=>lX) (fun r:Bool =>.clean (.bool r))
theorem Bp:ud none []=(lX).map fun r:Bool=>(.clean (.bool r),none):=aC _ _ _ ()
noncomputable def pT:Env:=(Am.ext (Am.ext (Am.ext (Am.ext (Am.ext (Am.ext (Am.ext (Am.ext aU 13 false jI) 15 false mf) 18 false kW) 20 false rV) 21 false pO) 35 false qP) 37 false rS) 38 false xp)
theorem I3:bK Tryz.prog pT:=((((((((bK.none.add pe false).add uY false).add tM false).add F8 false).add zc false).add En false).add F5 false).add M6 false)
theorem bu:type_of% (ai @w<|ai @fB<|ai @jN<|ai @gN<|ai @zm<|ai @mZ<|ai @w7<|ai @sU<|ai @l3<|@pT.eq_1):=⟨@w,@fB,@jN,@gN,@zm,@mZ,@w7,@sU,@l3,@pT.eq_1⟩
theorem Mp (r:Bool) (hh:lX=some r):aM .clean tab pT FU Tryz.f9 none []=some (.clean (.bool r),none):=by
 refine aq rfl Tryz.ntmps9 Tryz.results9 ?_
 unfold lX at hh
 have i1:=sU ([]) ([ByteArray.mk #[97],ByteArray.mk #[98],ByteArray.mk #[99]]) ([30,20,10]) ([7,8,9])
 simp only[aZ,b6,List.length_cons,List.length_nil,Nat.zero_add,Nat.reduceAdd,List.length_set]at i1
 obtain⟨r2,hr2,hh⟩:=ae hh
 try simp only[bu,seval,-Int.reduceToNat,i1,hr2]
 obtain⟨o3,ho3,hh⟩:=ae hh
 refine bA 0 (fun s t H e=>match s with|s37j1=>∃v1j1:Nat,t 1=.ptr 1 v1j1 0∧t 3=.sl false false r2.2.2.1.length (ab (eI .i64) r2.2.2.1)∧t 37=.bool s37j1∧H 1=some ⟨v1j1,24,[.sl false false r2.1.ag.length (ab al r2.1.ag)],false,false,false⟩) (fun s=>s=o3) ?_ ?_
 ·rintro s37j1 t H e ⟨v1j1,Zj1⟩ rfl
  try dsimp only at hh
  try simp only[bu,seval,-Int.reduceToNat,i1,hr2,Zj1]
  refine sp aj hh (fun _ hh =>?_) (fun _ hh =>?_)
  ·cases hh
   try simp only[bu,seval,-Int.reduceToNat,i1,hr2,Zj1]
  ·obtain⟨r5,hr5,hh⟩:=ae hh
   obtain⟨r6,hr6,hh⟩:=ae hh
   have i7:=l3 r2.1.ag ([1]) 20 ([(az.mk 1 r5)]) ([])
   simp only[aZ,b6,List.length_cons,List.length_nil,Nat.zero_add,Nat.reduceAdd,List.length_set]at i7
   obtain⟨r8,hr8,hh⟩:=ae hh
   try simp only[bu,seval,-Int.reduceToNat,i1,hr2,Zj1,hr5,hr6,i7,hr8]
   obtain⟨o9,ho9,hh⟩:=ae hh
   refine bA 0 (fun s t H e=>match s with|s7j2=>∃v1j2:Nat,∃v5j2:Nat,∃v6j2:Nat,t 1=.ptr 1 v1j2 0∧t 3=.sl false false r2.2.2.1.length (ab (eI .i64) r2.2.2.1)∧t 5=.ptr 5 v5j2 0∧t 6=.ptr 6 v6j2 0∧t 7=.bool s7j2∧H 1=some ⟨v1j2,24,[.sl false false r2.1.ag.length (ab al r2.1.ag)],false,false,false⟩∧H 5=some ⟨v5j2,55,[.int .i64 1,.int .i64 r5.bq.cn.ah,.sl false false r5.bq.cn.aa.length (ab (eI .i64) r5.bq.cn.aa),.int .i64 r5.bq.cl.ah,.sl false false r5.bq.cl.aa.length (ab (eI .i64) r5.bq.cl.aa),.int .i64 r5.aT.cn.ah,.sl false false r5.aT.cn.aa.length (ab (eI .i64) r5.aT.cn.aa),.int .i64 r5.aT.cl.ah,.sl false false r5.aT.cl.aa.length (ab (eI .i64) r5.aT.cl.aa)],false,false,false⟩∧H 6=some ⟨v6j2,55,[.int .i64 1,.int .i64 r6.bq.cn.ah,.sl false false r6.bq.cn.aa.length (ab (eI .i64) r6.bq.cn.aa),.int .i64 r6.bq.cl.ah,.sl false false r6.bq.cl.aa.length (ab (eI .i64) r6.bq.cl.aa),.int .i64 r6.aT.cn.ah,.sl false false r6.aT.cn.aa.length (ab (eI .i64) r6.aT.cn.aa),.int .i64 r6.aT.cl.ah,.sl false false r6.aT.cl.aa.length (ab (eI .i64) r6.aT.cl.aa)],false,false,false⟩) (fun s=>s=o9) ?_ ?_
   ·rintro s7j2 t H e ⟨v1j2,v5j2,v6j2,Zj2⟩ rfl
    try dsimp only at hh
    have i10:=l3 r2.1.ag ([1]) 20 ([(az.mk 1 r5),(az.mk 1 r6)]) ([(bn.mk 1 2)])
    simp only[aZ,b6,List.length_cons,List.length_nil,Nat.zero_add,Nat.reduceAdd,List.length_set]at i10
    obtain⟨r11,hr11,hh⟩:=ae hh
    have i12:=fB r2.1.ag 4 60 24 ([1,1]) ([]) ([])
    simp only[aZ,b6,List.length_cons,List.length_nil,Nat.zero_add,Nat.reduceAdd,List.length_set]at i12
    obtain⟨r13,hr13,hh⟩:=ae hh
    have i14:=mZ ([2,0])
    simp only[aZ,b6,List.length_cons,List.length_nil,Nat.zero_add,Nat.reduceAdd,List.length_set]at i14
    obtain⟨r15,hr15,hh⟩:=ae hh
    obtain⟨r16,hr16,hh⟩:=ae hh
    try simp only[bu,seval,-Int.reduceToNat,i1,hr2,hr5,hr6,i7,hr8,Zj2,i10,hr11,i12,hr13,i14,hr15,hr16]
    refine cf (by kernel_rfl) ?_
    have i17:=jN r16.1.ag ([r16.2.1]) ([[2,0]]) ([5]) r2.2.2.1 2
    simp only[aZ,b6,List.length_cons,List.length_nil,Nat.zero_add,Nat.reduceAdd,List.length_set]at i17
    obtain⟨r18,hr18,hh⟩:=ae hh
    try simp only[bu,seval,-Int.reduceToNat,i1,hr2,hr5,hr6,i7,hr8,Zj2,i10,hr11,i12,hr13,i14,hr15,hr16,i17,hr18]
    refine sp bd hh (fun _ hh =>?_) (fun _ hh =>?_)
    ·try simp only[bu,seval,-Int.reduceToNat,i1,hr2,hr5,hr6,i7,hr8,Zj2,i10,hr11,i12,hr13,i14,hr15,hr16,i17,hr18]
     refine sp bd hh (fun _ hh =>?_) (fun _ hh =>?_)
     ·try simp only[bu,seval,-Int.reduceToNat,i1,hr2,hr5,hr6,i7,hr8,Zj2,i10,hr11,i12,hr13,i14,hr15,hr16,i17,hr18]
      refine sp bd hh (fun _ hh =>?_) (fun _ hh =>?_)
      ·try simp only[bu,seval,-Int.reduceToNat,i1,hr2,hr5,hr6,i7,hr8,Zj2,i10,hr11,i12,hr13,i14,hr15,hr16,i17,hr18]
       refine sp bd hh (fun _ hh =>?_) (fun _ hh =>?_)
       ·try simp only[bu,seval,-Int.reduceToNat,i1,hr2,hr5,hr6,i7,hr8,Zj2,i10,hr11,i12,hr13,i14,hr15,hr16,i17,hr18]
        refine sp bd hh (fun _ hh =>?_) (fun _ hh =>?_)
        ·have i24:=gN r18.1 ([2,0])
         simp only[aZ,b6,List.length_cons,List.length_nil,Nat.zero_add,Nat.reduceAdd,List.length_set]at i24
         obtain⟨r25,hr25,hh⟩:=ae hh
         cases hh
         try simp only[bu,seval,-Int.reduceToNat,i1,hr2,hr5,hr6,i7,hr8,Zj2,i10,hr11,i12,hr13,i14,hr15,hr16,i17,hr18,i24,hr25]
        ·cases hh
         try simp only[bu,seval,-Int.reduceToNat,i1,hr2,hr5,hr6,i7,hr8,Zj2,i10,hr11,i12,hr13,i14,hr15,hr16,i17,hr18]
       ·cases hh
        try simp only[bu,seval,-Int.reduceToNat,i1,hr2,hr5,hr6,i7,hr8,Zj2,i10,hr11,i12,hr13,i14,hr15,hr16,i17,hr18]
      ·cases hh
       try simp only[bu,seval,-Int.reduceToNat,i1,hr2,hr5,hr6,i7,hr8,Zj2,i10,hr11,i12,hr13,i14,hr15,hr16,i17,hr18]
     ·cases hh
      try simp only[bu,seval,-Int.reduceToNat,i1,hr2,hr5,hr6,i7,hr8,Zj2,i10,hr11,i12,hr13,i14,hr15,hr16,i17,hr18]
    ·cases hh
     try simp only[bu,seval,-Int.reduceToNat,i1,hr2,hr5,hr6,i7,hr8,Zj2,i10,hr11,i12,hr13,i14,hr15,hr16,i17,hr18]
   ·clear hh
    have hh:=ho9
    try simp only[bu,seval,-Int.reduceToNat,i1,hr2,Zj1,hr5,hr6,i7,hr8]
    refine sp bd hh (fun _ hh =>?_) (fun _ hh =>?_)
    ·have i27:=l3 r2.1.ag ([1,2]) 20 ([]) ([(bn.mk 2 0)])
     simp only[aZ,b6,List.length_cons,List.length_nil,Nat.zero_add,Nat.reduceAdd,List.length_set]at i27
     obtain⟨r28,hr28,hh⟩:=ae hh
     try simp only[bu,seval,-Int.reduceToNat,i1,hr2,Zj1,hr5,hr6,i7,hr8,i27,hr28]
     refine sp bd hh (fun _ hh =>?_) (fun _ hh =>?_)
     ·have i30:=l3 r2.1.ag ([1]) 21 ([]) ([(bn.mk 1 1)])
      simp only[aZ,b6,List.length_cons,List.length_nil,Nat.zero_add,Nat.reduceAdd,List.length_set]at i30
      obtain⟨r31,hr31,hh⟩:=ae hh
      cases hh
      try simp only[bu,seval,-Int.reduceToNat,i1,hr2,Zj1,hr5,hr6,i7,hr8,i27,hr28,i30,hr31]
      rw[ak]
      refine⟨_,rfl,?_⟩
      refine⟨v1j1,e,e+1,?_,?_,?_,?_,?_,?_,?_,?_⟩
      all_goals first|rfl|(simp only[bu,seval,-Int.reduceToNat,i1,hr2,Zj1,hr5,hr6,i7,hr8,i27,hr28,i30,hr31]<;>rfl)
     ·cases hh
      try simp only[bu,seval,-Int.reduceToNat,i1,hr2,Zj1,hr5,hr6,i7,hr8,i27,hr28]
      rw[ak]
      refine⟨_,rfl,?_⟩
      refine⟨v1j1,e,e+1,?_,?_,?_,?_,?_,?_,?_,?_⟩
      all_goals first|rfl|(simp only[bu,seval,-Int.reduceToNat,i1,hr2,Zj1,hr5,hr6,i7,hr8,i27,hr28]<;>rfl)
    ·cases hh
     try simp only[bu,seval,-Int.reduceToNat,i1,hr2,Zj1,hr5,hr6,i7,hr8]
     rw[ak]
     refine⟨_,rfl,?_⟩
     refine⟨v1j1,e,e+1,?_,?_,?_,?_,?_,?_,?_,?_⟩
     all_goals first|rfl|(simp only[bu,seval,-Int.reduceToNat,i1,hr2,Zj1,hr5,hr6,i7,hr8]<;>rfl)
 ·clear hh
  have hh:=ho3
  try simp only[bu,seval,-Int.reduceToNat,i1,hr2]
  refine sp aB hh (fun _ hh =>?_) (fun _ hh =>?_)
  ·cases hh
   try simp only[bu,seval,-Int.reduceToNat,i1,hr2]
   rw[ak]
   refine⟨_,rfl,?_⟩
   refine⟨1,?_,?_,?_,?_⟩
   all_goals first|rfl|(simp only[bu,seval,-Int.reduceToNat,i1,hr2]<;>rfl)
  ·try simp only[bu,seval,-Int.reduceToNat,i1,hr2]
   refine sp aB hh (fun _ hh =>?_) (fun _ hh =>?_)
   ·cases hh
    try simp only[bu,seval,-Int.reduceToNat,i1,hr2]
    rw[ak]
    refine⟨_,rfl,?_⟩
    refine⟨1,?_,?_,?_,?_⟩
    all_goals first|rfl|(simp only[bu,seval,-Int.reduceToNat,i1,hr2]<;>rfl)
   ·have i34:=gN r2.2.2.1 ([0,1,2])
    simp only[aZ,b6,List.length_cons,List.length_nil,Nat.zero_add,Nat.reduceAdd,List.length_set]at i34
    obtain⟨r35,hr35,hh⟩:=ae hh
    cases hh
    try simp only[bu,seval,-Int.reduceToNat,i1,hr2,i34,hr35]
    rw[ak]
    refine⟨_,rfl,?_⟩
    refine⟨1,?_,?_,?_,?_⟩
    all_goals first|rfl|(simp only[bu,seval,-Int.reduceToNat,i1,hr2,i34,hr35]<;>rfl)
theorem JJ:bE Tryz.prog 9 ud:=bE.of (mode := .clean) tok I3 mixed Tryz.func9 (by kernel_rfl) ⟨by kernel_rfl,by kernel_rfl⟩ (fun _=>Nat.le_of_ble_eq_true (by kernel_rfl)) (fun x r h=>Mp  r h)
noncomputable def zQ:=dI (cH (cI di) (dn (aI .i64))) (fun x:au×Int=>sZ x.1 x.2) (fun r:Bool =>.clean (.bool r))
theorem H4 (p0_0:(List av)) (p1:Int):zQ none [.agg [.sl false false p0_0.length (ab al p0_0)],.int .i64 p1]=(sZ (au.mk p0_0) p1).map fun r:Bool=>(.clean (.bool r),none):=aC _ _ _ ((au.mk p0_0),p1)
theorem S2 (p0:au) (p1:Int) (r:Bool) (hh:sZ p0 p1=some r):aM .clean tab aU FU Tryz.f10 none [.agg [.sl false false p0.ag.length (ab al p0.ag)],.int .i64 p1]=some (.clean (.bool r),none):=by
 refine aq rfl Tryz.ntmps10 Tryz.results10 ?_
 unfold sZ at hh
 try simp only[w,seval,-Int.reduceToNat]
 obtain⟨o6,ho6,hh⟩:=ae hh
 refine ax (fun s t H e=>match s with|s5a=>∃v2a:Nat,t 1=.int .i64 p1∧t 2=.ptr 2 v2a 0∧t 5=.int .i64 s5a∧H 2=some ⟨v2a,24,[.sl false false p0.ag.length (ab al p0.ag)],false,false,false⟩) (fun o x t H e=>match o with|(.inl _)=>x=.exit 0∧∃v2ax:Nat,t 1=.int .i64 p1∧t 2=.ptr 2 v2ax 0∧H 2=some ⟨v2ax,24,[.sl false false p0.ag.length (ab al p0.ag)],false,false,false⟩|(.inr r)=>x=.ret∧eW .clean tab none [.tmp 4] ⟨t,H,e⟩=some (.clean (.bool r),none)) ho6 ?_ ?_ ?_
 ·refine⟨0,?_,?_,?_,?_⟩
  all_goals first|rfl|(simp only[w,seval,-Int.reduceToNat]<;>rfl)
 ·rintro s5a t H e ⟨v2a,Za⟩ c hh
  simp only[s5]at hh
  try simp only[w,seval,-Int.reduceToNat,Za]
  obtain⟨o7,ho7,hh⟩:=ae hh
  refine bA 0 (fun s t H e=>match s with|s15j3=>∃v2j3:Nat,t 1=.int .i64 p1∧t 2=.ptr 2 v2j3 0∧t 5=.int .i64 s5a∧t 15=.bool s15j3∧H 2=some ⟨v2j3,24,[.sl false false p0.ag.length (ab al p0.ag)],false,false,false⟩) (fun s=>s=o7) ?_ ?_
  ·rintro s15j3 t H e ⟨v2j3,Zj3⟩ rfl
   try dsimp only at hh
   try simp only[w,seval,-Int.reduceToNat,Zj3]
   refine sp aj hh (fun _ hh =>?_) (fun _ hh =>?_)
   ·obtain⟨x9,hx9,hh⟩:=ae hh
    have ax9:=bF al hx9
    simp only[b6]at ax9
    try simp only[w,seval,-Int.reduceToNat,Zj3,ax9]
    refine sp aj hh (fun _ hh =>?_) (fun _ hh =>?_)
    ·cases hh
     try simp only[w,seval,-Int.reduceToNat,Zj3,ax9]
     refine pc ⟨rfl,?_⟩
     try simp only[w,seval,-Int.reduceToNat,Zj3,ax9]
    ·cases hh
     try simp only[w,seval,-Int.reduceToNat,Zj3,ax9]
     refine gA ?_
     refine⟨v2j3,?_,?_,?_,?_⟩
     all_goals first|rfl|(simp only[w,seval,-Int.reduceToNat,Zj3,ax9]<;>rfl)
   ·cases hh
    try simp only[w,seval,-Int.reduceToNat,Zj3]
    refine iS ?_
    refine⟨rfl,⟨v2j3,?_,?_,?_⟩⟩
    all_goals first|rfl|(simp only[w,seval,-Int.reduceToNat,Zj3]<;>rfl)
  ·clear hh
   have hh:=ho7
   try simp only[w,seval,-Int.reduceToNat,Za]
   refine sp bd hh (fun _ hh =>?_) (fun _ hh =>?_)
   ·cases hh
    try simp only[w,seval,-Int.reduceToNat,Za]
    rw[ak]
    refine⟨_,rfl,?_⟩
    refine⟨v2a,?_,?_,?_,?_,?_⟩
    all_goals first|rfl|(simp only[w,seval,-Int.reduceToNat,Za]<;>rfl)
   ·cases hh
    try simp only[w,seval,-Int.reduceToNat,Za]
    rw[ak]
    refine⟨_,rfl,?_⟩
    refine⟨v2a,?_,?_,?_,?_,?_⟩
    all_goals first|rfl|(simp only[w,seval,-Int.reduceToNat,Za]<;>rfl)
 ·rintro x t H e hx
  rcases o6 with _|ra
  ·dsimp only at hx hh
   obtain⟨rfl,⟨v2ax,Zax⟩⟩:=hx
   cases hh
   try simp only[w,seval,-Int.reduceToNat,Zax]
  ·dsimp only at hx hh
   obtain⟨rfl,hE⟩:=hx
   cases hh
   try simp only[aO,aG,aW,bX,bW]
   exact hE
theorem Py:bE Tryz.prog 10 zQ:=bE.of (mode := .clean) tok bK.none mixed Tryz.func10 (by kernel_rfl) ⟨by kernel_rfl,by kernel_rfl⟩ (fun _=>Nat.le_of_ble_eq_true (by kernel_rfl)) (fun x r h=>S2 x.1 x.2 r h)
noncomputable def zM:=dI (cH (cI jd) (dn (aI .i64))) (fun x:aQ×Int=>qH x.1 x.2) (fun r:Bool =>.clean (.bool r))
theorem HZ (p0_0:Int) (p0_1:(List Int)) (p0_2:Int) (p0_3:(List Int)) (p1:Int):zM none [.agg [.int .i64 p0_0,.sl false false p0_1.length (ab (eI .i64) p0_1),.int .i64 p0_2,.sl false false p0_3.length (ab (eI .i64) p0_3)],.int .i64 p1]=(qH (aQ.mk (aw.mk p0_0 p0_1) (aw.mk p0_2 p0_3)) p1).map fun r:Bool=>(.clean (.bool r),none):=aC _ _ _ ((aQ.mk (aw.mk p0_0 p0_1) (aw.mk p0_2 p0_3)),p1)
theorem SX (p0:aQ) (p1:Int) (r:Bool) (hh:qH p0 p1=some r):aM .clean tab aU FU Tryz.f56 none [.agg [.int .i64 p0.cn.ah,.sl false false p0.cn.aa.length (ab (eI .i64) p0.cn.aa),.int .i64 p0.cl.ah,.sl false false p0.cl.aa.length (ab (eI .i64) p0.cl.aa)],.int .i64 p1]=some (.clean (.bool r),none):=by
 refine aq rfl Tryz.ntmps56 Tryz.results56 ?_
 unfold qH at hh
 try simp only[w,seval,-Int.reduceToNat]
 refine sp bd hh (fun _ hh =>?_) (fun _ hh =>?_)
 ·cases hh
  try simp only[w,seval,-Int.reduceToNat]
 ·cases hh
  try simp only[w,seval,-Int.reduceToNat]
theorem Pu:bE Tryz.prog 56 zM:=bE.of (mode := .clean) tok bK.none mixed Tryz.func56 (by kernel_rfl) ⟨by kernel_rfl,by kernel_rfl⟩ (fun _=>Nat.le_of_ble_eq_true (by kernel_rfl)) (fun x r h=>SX x.1 x.2 r h)
noncomputable def zO:=dI (cH (cI sk) (dn (aI .i64))) (fun x:dt×Int=>sY x.1 x.2) (fun r:Bool =>.clean (.bool r))
theorem H2 (p0_0:Int) (p0_1:(List Int)) (p0_2:Int) (p0_3:(List Int)) (p0_4:Int) (p0_5:(List Int)) (p0_6:Int) (p0_7:(List Int)) (p1:Int):zO none [.agg [.int .i64 p0_0,.sl false false p0_1.length (ab (eI .i64) p0_1),.int .i64 p0_2,.sl false false p0_3.length (ab (eI .i64) p0_3),.int .i64 p0_4,.sl false false p0_5.length (ab (eI .i64) p0_5),.int .i64 p0_6,.sl false false p0_7.length (ab (eI .i64) p0_7)],.int .i64 p1]=(sY (dt.mk (aQ.mk (aw.mk p0_0 p0_1) (aw.mk p0_2 p0_3)) (aQ.mk (aw.mk p0_4 p0_5) (aw.mk p0_6 p0_7))) p1).map fun r:Bool=>(.clean (.bool r),none):=aC _ _ _ ((dt.mk (aQ.mk (aw.mk p0_0 p0_1) (aw.mk p0_2 p0_3)) (aQ.mk (aw.mk p0_4 p0_5) (aw.mk p0_6 p0_7))),p1)
noncomputable def vT:Env:=(Am.ext aU 56 false zM)
theorem OO:bK Tryz.prog vT:=(bK.none.add Pu false)
theorem AO:type_of% (ai @w<|ai @HZ<|@vT.eq_1):=⟨@w,@HZ,@vT.eq_1⟩
theorem S0 (p0:dt) (p1:Int) (r:Bool) (hh:sY p0 p1=some r):aM .clean tab vT FU Tryz.f29 none [.agg [.int .i64 p0.bq.cn.ah,.sl false false p0.bq.cn.aa.length (ab (eI .i64) p0.bq.cn.aa),.int .i64 p0.bq.cl.ah,.sl false false p0.bq.cl.aa.length (ab (eI .i64) p0.bq.cl.aa),.int .i64 p0.aT.cn.ah,.sl false false p0.aT.cn.aa.length (ab (eI .i64) p0.aT.cn.aa),.int .i64 p0.aT.cl.ah,.sl false false p0.aT.cl.aa.length (ab (eI .i64) p0.aT.cl.aa)],.int .i64 p1]=some (.clean (.bool r),none):=by
 refine aq rfl Tryz.ntmps29 Tryz.results29 ?_
 unfold sY at hh
 obtain⟨r1,hr1,hh⟩:=ae hh
 try simp only[AO,seval,-Int.reduceToNat,hr1]
 refine sp bd hh (fun _ hh =>?_) (fun _ hh =>?_)
 ·obtain⟨r3,hr3,hh⟩:=ae hh
  cases hh
  try simp only[AO,seval,-Int.reduceToNat,hr1,hr3]
 ·cases hh
  try simp only[AO,seval,-Int.reduceToNat,hr1]
theorem Pw:bE Tryz.prog 29 zO:=bE.of (mode := .clean) tok OO mixed Tryz.func29 (by kernel_rfl) ⟨by kernel_rfl,by kernel_rfl⟩ (fun _=>Nat.le_of_ble_eq_true (by kernel_rfl)) (fun x r h=>S0 x.1 x.2 r h)
noncomputable def zT:=dI (cH (eZ aR) (dn (eZ aA))) (fun x:(List aF)×(List az)=>te x.1 x.2) (fun r:Bool =>.clean (.bool r))
theorem H7 (p0:(List aF)) (p1:(List az)):zT none [.sl false false p0.length (ab aR p0),.sl false false p1.length (ab aA p1)]=(te p0 p1).map fun r:Bool=>(.clean (.bool r),none):=aC _ _ _ (p0,p1)
noncomputable def vW:Env:=(Am.ext aU 29 false zO)
theorem OR:bK Tryz.prog vW:=(bK.none.add Pw false)
theorem bC:type_of% (ai @w<|ai @H2<|@vW.eq_1):=⟨@w,@H2,@vW.eq_1⟩
theorem S5 (p0:(List aF)) (p1:(List az)) (r:Bool) (hh:te p0 p1=some r):aM .clean tab vW FU Tryz.f11 none [.sl false false p0.length (ab aR p0),.sl false false p1.length (ab aA p1)]=some (.clean (.bool r),none):=by
 refine aq rfl Tryz.ntmps11 Tryz.results11 ?_
 unfold te at hh
 try simp only[bC,seval,-Int.reduceToNat]
 obtain⟨o7,ho7,hh⟩:=ae hh
 refine ax (fun s t H e=>match s with|s5a=>t 0=.sl false false p0.length (ab aR p0)∧t 1=.sl false false p1.length (ab aA p1)∧t 5=.int .i64 s5a) (fun o x t H e=>match o with|(.inl _)=>x=.exit 0∧t 0=.sl false false p0.length (ab aR p0)∧t 1=.sl false false p1.length (ab aA p1)|(.inr r)=>x=.ret∧eW .clean tab none [.tmp 4] ⟨t,H,e⟩=some (.clean (.bool r),none)) ho7 ?_ ?_ ?_
 ·refine⟨?_,?_,?_⟩
  all_goals first|rfl|(simp only[bC,seval,-Int.reduceToNat]<;>rfl)
 ·rintro s5a t H e Za c hh
  simp only[tf]at hh
  try simp only[bC,seval,-Int.reduceToNat,Za]
  obtain⟨o8,ho8,hh⟩:=ae hh
  refine bA 0 (fun s t H e=>match s with|s14j3=>t 0=.sl false false p0.length (ab aR p0)∧t 1=.sl false false p1.length (ab aA p1)∧t 5=.int .i64 s5a∧t 14=.bool s14j3) (fun s=>s=o8) ?_ ?_
  ·rintro s14j3 t H e Zj3 rfl
   try dsimp only at hh
   try simp only[bC,seval,-Int.reduceToNat,Zj3]
   refine sp aj hh (fun _ hh =>?_) (fun _ hh =>?_)
   ·obtain⟨x10,hx10,hh⟩:=ae hh
    have ax10:=bF aR hx10
    simp only[b6]at ax10
    try simp only[bC,seval,-Int.reduceToNat,Zj3,ax10]
    refine sp aB hh (fun _ hh =>?_) (fun _ hh =>?_)
    ·cases hh
     try simp only[bC,seval,-Int.reduceToNat,Zj3,ax10]
     refine pc ⟨rfl,?_⟩
     try simp only[bC,seval,-Int.reduceToNat,Zj3,ax10]
    ·have ax10:=bF aR hx10
     simp only[b6]at ax10
     try simp only[bC,seval,-Int.reduceToNat,Zj3,ax10,ax10]
     refine sp aj hh (fun _ hh =>?_) (fun _ hh =>?_)
     ·cases hh
      try simp only[bC,seval,-Int.reduceToNat,Zj3,ax10,ax10]
      refine pc ⟨rfl,?_⟩
      try simp only[bC,seval,-Int.reduceToNat,Zj3,ax10,ax10]
     ·cases hh
      try simp only[bC,seval,-Int.reduceToNat,Zj3,ax10,ax10]
      refine gA ?_
      refine⟨?_,?_,?_⟩
      all_goals first|rfl|(simp only[bC,seval,-Int.reduceToNat,Zj3,ax10,ax10]<;>rfl)
   ·cases hh
    try simp only[bC,seval,-Int.reduceToNat,Zj3]
    refine iS ?_
    refine⟨rfl,⟨?_,?_⟩⟩
    all_goals first|rfl|(simp only[bC,seval,-Int.reduceToNat,Zj3]<;>rfl)
  ·clear hh
   have hh:=ho8
   try simp only[bC,seval,-Int.reduceToNat,Za]
   refine sp bd hh (fun _ hh =>?_) (fun _ hh =>?_)
   ·cases hh
    try simp only[bC,seval,-Int.reduceToNat,Za]
    rw[ak]
    refine⟨_,rfl,?_⟩
    refine⟨?_,?_,?_,?_⟩
    all_goals first|rfl|(simp only[bC,seval,-Int.reduceToNat,Za]<;>rfl)
   ·cases hh
    try simp only[bC,seval,-Int.reduceToNat,Za]
    rw[ak]
    refine⟨_,rfl,?_⟩
    refine⟨?_,?_,?_,?_⟩
    all_goals first|rfl|(simp only[bC,seval,-Int.reduceToNat,Za]<;>rfl)
 ·rintro x t H e hx
  rcases o7 with _|ra
  ·dsimp only at hx hh
   obtain⟨rfl,Zax⟩:=hx
   try simp only[bC,seval,-Int.reduceToNat,Zax]
   obtain⟨o20,ho20,hh⟩:=ae hh
   refine ax (fun s t H e=>match s with|s6d=>t 0=.sl false false p0.length (ab aR p0)∧t 1=.sl false false p1.length (ab aA p1)∧t 6=.int .i64 s6d) (fun o x t H e=>match o with|(.inl _)=>x=.exit 2∧t 0=.sl false false p0.length (ab aR p0)∧t 1=.sl false false p1.length (ab aA p1)|(.inr r)=>x=.ret∧eW .clean tab none [.tmp 4] ⟨t,H,e⟩=some (.clean (.bool r),none)) ho20 ?_ ?_ ?_
   ·refine⟨?_,?_,?_⟩
    all_goals first|rfl|(simp only[bC,seval,-Int.reduceToNat,Zax]<;>rfl)
   ·rintro s6d t H e Zd c hh
    simp only[th]at hh
    try simp only[bC,seval,-Int.reduceToNat,Zd]
    obtain⟨o21,ho21,hh⟩:=ae hh
    refine bA 0 (fun s t H e=>match s with|s40j6=>t 0=.sl false false p0.length (ab aR p0)∧t 1=.sl false false p1.length (ab aA p1)∧t 6=.int .i64 s6d∧t 40=.bool s40j6) (fun s=>s=o21) ?_ ?_
    ·rintro s40j6 t H e Zj6 rfl
     try dsimp only at hh
     try simp only[bC,seval,-Int.reduceToNat,Zj6]
     refine sp aj hh (fun _ hh =>?_) (fun _ hh =>?_)
     ·obtain⟨x23,hx23,hh⟩:=ae hh
      have ax23:=bF aA hx23
      simp only[b6]at ax23
      obtain⟨r24,hr24,hh⟩:=ae hh
      try simp only[bC,seval,-Int.reduceToNat,Zj6,ax23,hr24]
      refine sp aj hh (fun _ hh =>?_) (fun _ hh =>?_)
      ·cases hh
       try simp only[bC,seval,-Int.reduceToNat,Zj6,ax23,hr24]
       refine pc ⟨rfl,?_⟩
       try simp only[bC,seval,-Int.reduceToNat,Zj6,ax23,hr24]
      ·cases hh
       try simp only[bC,seval,-Int.reduceToNat,Zj6,ax23,hr24]
       refine gA ?_
       refine⟨?_,?_,?_⟩
       all_goals first|rfl|(simp only[bC,seval,-Int.reduceToNat,Zj6,ax23,hr24]<;>rfl)
     ·cases hh
      try simp only[bC,seval,-Int.reduceToNat,Zj6]
      refine iS ?_
      refine⟨rfl,⟨?_,?_⟩⟩
      all_goals first|rfl|(simp only[bC,seval,-Int.reduceToNat,Zj6]<;>rfl)
    ·clear hh
     have hh:=ho21
     try simp only[bC,seval,-Int.reduceToNat,Zd]
     refine sp bd hh (fun _ hh =>?_) (fun _ hh =>?_)
     ·cases hh
      try simp only[bC,seval,-Int.reduceToNat,Zd]
      rw[ak]
      refine⟨_,rfl,?_⟩
      refine⟨?_,?_,?_,?_⟩
      all_goals first|rfl|(simp only[bC,seval,-Int.reduceToNat,Zd]<;>rfl)
     ·cases hh
      try simp only[bC,seval,-Int.reduceToNat,Zd]
      rw[ak]
      refine⟨_,rfl,?_⟩
      refine⟨?_,?_,?_,?_⟩
      all_goals first|rfl|(simp only[bC,seval,-Int.reduceToNat,Zd]<;>rfl)
   ·rintro x t H e hx
    rcases o20 with _|rd
    ·dsimp only at hx hh
     obtain⟨rfl,Zdx⟩:=hx
     try simp only[bC,seval,-Int.reduceToNat,Zdx]
     refine sp bd hh (fun _ hh =>?_) (fun _ hh =>?_)
     ·cases hh
      try simp only[bC,seval,-Int.reduceToNat,Zdx]
     ·cases hh
      try simp only[bC,seval,-Int.reduceToNat,Zdx]
    ·dsimp only at hx hh
     obtain⟨rfl,hE⟩:=hx
     cases hh
     try simp only[aO,aG,aW,bX,bW]
     exact hE
  ·dsimp only at hx hh
   obtain⟨rfl,hE⟩:=hx
   cases hh
   try simp only[aO,aG,aW,bX,bW]
   exact hE
theorem PB:bE Tryz.prog 11 zT:=bE.of (mode := .clean) tok OR mixed Tryz.func11 (by kernel_rfl) ⟨by kernel_rfl,by kernel_rfl⟩ (fun _=>Nat.le_of_ble_eq_true (by kernel_rfl)) (fun x r h=>S5 x.1 x.2 r h)
noncomputable def rN:=dI (dn (eZ (eI .i64))) (fun x:(List Int)=>kd x) (fun r:Bool =>.clean (.bool r))
theorem zh (p0:(List Int)):rN none [.sl false false p0.length (ab (eI .i64) p0)]=(kd p0).map fun r:Bool=>(.clean (.bool r),none):=aC _ _ _ (p0)
theorem Jq (p0:(List Int)) (r:Bool) (hh:kd p0=some r):aM .clean tab aU FU Tryz.f19 none [.sl false false p0.length (ab (eI .i64) p0)]=some (.clean (.bool r),none):=by
 refine aq rfl Tryz.ntmps19 Tryz.results19 ?_
 unfold kd at hh
 try simp only[w,seval,-Int.reduceToNat]
 refine sp aB hh (fun _ hh =>?_) (fun _ hh =>?_)
 ·cases hh
  try simp only[w,seval,-Int.reduceToNat]
 ·try simp only[w,seval,-Int.reduceToNat]
  refine sp bd hh (fun _ hh =>?_) (fun _ hh =>?_)
  ·cases hh
   try simp only[w,seval,-Int.reduceToNat]
  ·cases hh
   try simp only[w,seval,-Int.reduceToNat]
theorem F1:bE Tryz.prog 19 rN:=bE.of (mode := .clean) tok bK.none mixed Tryz.func19 (by kernel_rfl) ⟨by kernel_rfl,by kernel_rfl⟩ (fun _=>Nat.le_of_ble_eq_true (by kernel_rfl)) (fun x r h=>Jq x r h)
noncomputable def zR:=dI (dn (eZ (iC (eI .i64)))) (fun x:(List (List Int))=>s6 x) (fun r:Bool =>.clean (.bool r))
theorem H5 (p0:(List (List Int))):zR none [.sl false false p0.length (ab (iC (eI .i64)) p0)]=(s6 p0).map fun r:Bool=>(.clean (.bool r),none):=aC _ _ _ (p0)
noncomputable def vV:Env:=(Am.ext aU 19 false rN)
theorem OQ:bK Tryz.prog vV:=(bK.none.add F1 false)
theorem db:type_of% (ai @w<|ai @zh<|@vV.eq_1):=⟨@w,@zh,@vV.eq_1⟩
theorem S3 (p0:(List (List Int))) (r:Bool) (hh:s6 p0=some r):aM .clean tab vV FU Tryz.f12 none [.sl false false p0.length (ab (iC (eI .i64)) p0)]=some (.clean (.bool r),none):=by
 refine aq rfl Tryz.ntmps12 Tryz.results12 ?_
 unfold s6 at hh
 try simp only[db,seval,-Int.reduceToNat]
 obtain⟨o7,ho7,hh⟩:=ae hh
 refine ax (fun s t H e=>match s with|s3a=>t 0=.sl false false p0.length (ab (iC (eI .i64)) p0)∧t 3=.int .i64 s3a) (fun o x t H e=>match o with|(.inl _)=>x=.exit 0∧t 0=.sl false false p0.length (ab (iC (eI .i64)) p0)|(.inr r)=>x=.ret∧eW .clean tab none [.tmp 2] ⟨t,H,e⟩=some (.clean (.bool r),none)) ho7 ?_ ?_ ?_
 ·refine⟨?_,?_⟩
  all_goals first|rfl|(simp only[db,seval,-Int.reduceToNat]<;>rfl)
 ·rintro s3a t H e Za c hh
  simp only[s7]at hh
  try simp only[db,seval,-Int.reduceToNat,Za]
  obtain⟨o8,ho8,hh⟩:=ae hh
  refine bA 0 (fun s t H e=>match s with|s11j3=>t 0=.sl false false p0.length (ab (iC (eI .i64)) p0)∧t 3=.int .i64 s3a∧t 11=.bool s11j3) (fun s=>s=o8) ?_ ?_
  ·rintro s11j3 t H e Zj3 rfl
   try dsimp only at hh
   try simp only[db,seval,-Int.reduceToNat,Zj3]
   refine sp aj hh (fun _ hh =>?_) (fun _ hh =>?_)
   ·obtain⟨x10,hx10,hh⟩:=ae hh
    have ax10:=bF (iC (eI .i64)) hx10
    simp only[b6]at ax10
    obtain⟨r11,hr11,hh⟩:=ae hh
    try simp only[db,seval,-Int.reduceToNat,Zj3,ax10,hr11]
    refine sp aj hh (fun _ hh =>?_) (fun _ hh =>?_)
    ·cases hh
     try simp only[db,seval,-Int.reduceToNat,Zj3,ax10,hr11]
     refine pc ⟨rfl,?_⟩
     try simp only[db,seval,-Int.reduceToNat,Zj3,ax10,hr11]
    ·cases hh
     try simp only[db,seval,-Int.reduceToNat,Zj3,ax10,hr11]
     refine gA ?_
     refine⟨?_,?_⟩
     all_goals first|rfl|(simp only[db,seval,-Int.reduceToNat,Zj3,ax10,hr11]<;>rfl)
   ·cases hh
    try simp only[db,seval,-Int.reduceToNat,Zj3]
    refine iS ?_
    refine⟨rfl,?_⟩
    all_goals first|rfl|(simp only[db,seval,-Int.reduceToNat,Zj3]<;>rfl)
  ·clear hh
   have hh:=ho8
   try simp only[db,seval,-Int.reduceToNat,Za]
   refine sp bd hh (fun _ hh =>?_) (fun _ hh =>?_)
   ·cases hh
    try simp only[db,seval,-Int.reduceToNat,Za]
    rw[ak]
    refine⟨_,rfl,?_⟩
    refine⟨?_,?_,?_⟩
    all_goals first|rfl|(simp only[db,seval,-Int.reduceToNat,Za]<;>rfl)
   ·cases hh
    try simp only[db,seval,-Int.reduceToNat,Za]
    rw[ak]
    refine⟨_,rfl,?_⟩
    refine⟨?_,?_,?_⟩
    all_goals first|rfl|(simp only[db,seval,-Int.reduceToNat,Za]<;>rfl)
 ·rintro x t H e hx
  rcases o7 with _|ra
  ·dsimp only at hx hh
   obtain⟨rfl,Zax⟩:=hx
   try simp only[db,seval,-Int.reduceToNat,Zax]
   refine sp aB hh (fun _ hh =>?_) (fun _ hh =>?_)
   ·cases hh
    try simp only[db,seval,-Int.reduceToNat,Zax]
   ·try simp only[db,seval,-Int.reduceToNat,Zax]
    refine sp bd hh (fun _ hh =>?_) (fun _ hh =>?_)
    ·cases hh
     try simp only[db,seval,-Int.reduceToNat,Zax]
    ·cases hh
     try simp only[db,seval,-Int.reduceToNat,Zax]
  ·dsimp only at hx hh
   obtain⟨rfl,hE⟩:=hx
   cases hh
   try simp only[aO,aG,aW,bX,bW]
   exact hE
theorem Pz:bE Tryz.prog 12 zR:=bE.of (mode := .clean) tok OQ mixed Tryz.func12 (by kernel_rfl) ⟨by kernel_rfl,by kernel_rfl⟩ (fun _=>Nat.le_of_ble_eq_true (by kernel_rfl)) (fun x r h=>S3 x r h)
noncomputable def pK:=dI (dn (cI al)) (fun x:av=>kC x) (fun r:Bool =>.clean (.bool r))
theorem qz (p0_0:ByteArray) (p0_1:Int) (p0_2:Int) (p0_3:Int) (p0_4:Int):pK none [.agg [.str p0_0,.int .i64 p0_1,.int .i64 p0_2,.int .i64 p0_3,.int .i64 p0_4]]=(kC (av.mk p0_0 p0_1 p0_2 p0_3 p0_4)).map fun r:Bool=>(.clean (.bool r),none):=aC _ _ _ ((av.mk p0_0 p0_1 p0_2 p0_3 p0_4))
theorem Mw (p0:av) (r:Bool) (hh:kC p0=some r):aM .clean tab aU FU Tryz.f110 none [.agg [.str p0.cp,.int .i64 p0.aE,.int .i64 p0.aY,.int .i64 p0.bT,.int .i64 p0.bJ]]=some (.clean (.bool r),none):=by
 refine aq rfl Tryz.ntmps110 Tryz.results110 ?_
 unfold kC at hh
 try simp only[w,seval,-Int.reduceToNat]
 refine sp bd hh (fun _ hh =>?_) (fun _ hh =>?_)
 ·cases hh
  try simp only[w,seval,-Int.reduceToNat]
 ·cases hh
  try simp only[w,seval,-Int.reduceToNat]
theorem y8:bE Tryz.prog 110 pK:=bE.of (mode := .clean) tok bK.none mixed Tryz.func110 (by kernel_rfl) ⟨by kernel_rfl,by kernel_rfl⟩ (fun _=>Nat.le_of_ble_eq_true (by kernel_rfl)) (fun x r h=>Mw x r h)
noncomputable def ue:=dI (cH (aI .i64) (cH (aI .i64) (dn (aI .i64)))) (fun x:Int×Int×Int=>qX x.1 x.2.1 x.2.2) (fun r:Bool =>.clean (.bool r))
theorem rD (p0:Int) (p1:Int) (p2:Int):ue none [.int .i64 p0,.int .i64 p1,.int .i64 p2]=(qX p0 p1 p2).map fun r:Bool=>(.clean (.bool r),none):=aC _ _ _ (p0,p1,p2)
theorem Vg (p0:Int) (p1:Int) (p2:Int) (r:Bool) (hh:qX p0 p1 p2=some r):aM .clean tab aU FU Tryz.f77 none [.int .i64 p0,.int .i64 p1,.int .i64 p2]=some (.clean (.bool r),none):=by
 refine aq rfl Tryz.ntmps77 Tryz.results77 ?_
 unfold qX at hh
 try simp only[w,seval,-Int.reduceToNat]
 refine sp bd hh (fun _ hh =>?_) (fun _ hh =>?_)
 ·cases hh
  try simp only[w,seval,-Int.reduceToNat]
 ·cases hh
  try simp only[w,seval,-Int.reduceToNat]
theorem Ax:bE Tryz.prog 77 ue:=bE.of (mode := .clean) tok bK.none mixed Tryz.func77 (by kernel_rfl) ⟨by kernel_rfl,by kernel_rfl⟩ (fun _=>Nat.le_of_ble_eq_true (by kernel_rfl)) (fun x r h=>Vg x.1 x.2.1 x.2.2 r h)
noncomputable def xu:=dI (dn (cI al)) (fun x:av=>pk x) (fun r:Bool =>.clean (.bool r))
theorem EG (p0_0:ByteArray) (p0_1:Int) (p0_2:Int) (p0_3:Int) (p0_4:Int):xu none [.agg [.str p0_0,.int .i64 p0_1,.int .i64 p0_2,.int .i64 p0_3,.int .i64 p0_4]]=(pk (av.mk p0_0 p0_1 p0_2 p0_3 p0_4)).map fun r:Bool=>(.clean (.bool r),none):=aC _ _ _ ((av.mk p0_0 p0_1 p0_2 p0_3 p0_4))
noncomputable def sA:Env:=(Am.ext (Am.ext aU 77 false ue) 110 false pK)
theorem LI:bK Tryz.prog sA:=((bK.none.add Ax false).add y8 false)
theorem ki:type_of% (ai @w<|ai @rD<|ai @qz<|@sA.eq_1):=⟨@w,@rD,@qz,@sA.eq_1⟩
theorem O9 (p0:av) (r:Bool) (hh:pk p0=some r):aM .clean tab sA FU Tryz.f76 none [.agg [.str p0.cp,.int .i64 p0.aE,.int .i64 p0.aY,.int .i64 p0.bT,.int .i64 p0.bJ]]=some (.clean (.bool r),none):=by
 refine aq rfl Tryz.ntmps76 Tryz.results76 ?_
 unfold pk at hh
 obtain⟨r1,hr1,hh⟩:=ae hh
 try simp only[ki,seval,-Int.reduceToNat,hr1]
 refine sp bd hh (fun _ hh =>?_) (fun _ hh =>?_)
 ·try simp only[ki,seval,-Int.reduceToNat,hr1]
  refine sp bd hh (fun _ hh =>?_) (fun _ hh =>?_)
  ·obtain⟨r4,hr4,hh⟩:=ae hh
   try simp only[ki,seval,-Int.reduceToNat,hr1,hr4]
   refine sp bd hh (fun _ hh =>?_) (fun _ hh =>?_)
   ·obtain⟨r6,hr6,hh⟩:=ae hh
    cases hh
    try simp only[ki,seval,-Int.reduceToNat,hr1,hr4,hr6]
   ·cases hh
    try simp only[ki,seval,-Int.reduceToNat,hr1,hr4]
  ·cases hh
   try simp only[ki,seval,-Int.reduceToNat,hr1]
 ·cases hh
  try simp only[ki,seval,-Int.reduceToNat,hr1]
theorem Na:bE Tryz.prog 76 xu:=bE.of (mode := .clean) tok LI mixed Tryz.func76 (by kernel_rfl) ⟨by kernel_rfl,by kernel_rfl⟩ (fun _=>Nat.le_of_ble_eq_true (by kernel_rfl)) (fun x r h=>O9 x r h)
noncomputable def mN:=dI (dn (cI di)) (fun x:au=>iM x) (fun r:Bool =>.clean (.bool r))
theorem kz (p0_0:(List av)):mN none [.agg [.sl false false p0_0.length (ab al p0_0)]]=(iM (au.mk p0_0)).map fun r:Bool=>(.clean (.bool r),none):=aC _ _ _ ((au.mk p0_0))
noncomputable def pZ:Env:=(Am.ext (Am.ext aU 76 false xu) 77 false ue)
theorem I9:bK Tryz.prog pZ:=((bK.none.add Na false).add Ax false)
theorem bf:type_of% (ai @w<|ai @EG<|ai @rD<|@pZ.eq_1):=⟨@w,@EG,@rD,@pZ.eq_1⟩
theorem My (p0:au) (r:Bool) (hh:iM p0=some r):aM .clean tab pZ FU Tryz.f44 none [.agg [.sl false false p0.ag.length (ab al p0.ag)]]=some (.clean (.bool r),none):=by
 refine aq rfl Tryz.ntmps44 Tryz.results44 ?_
 unfold iM at hh
 try simp only[bf,seval,-Int.reduceToNat]
 refine sp aj hh (fun _ hh =>?_) (fun _ hh =>?_)
 ·cases hh
  try simp only[bf,seval,-Int.reduceToNat]
 ·try simp only[bf,seval,-Int.reduceToNat]
  obtain⟨o18,ho18,hh⟩:=ae hh
  refine ax (fun s t H e=>match s with|s3a=>∃v1a:Nat,t 1=.ptr 1 v1a 0∧t 3=.int .i64 s3a∧H 1=some ⟨v1a,24,[.sl false false p0.ag.length (ab al p0.ag)],false,false,false⟩) (fun o x t H e=>match o with|(.inl _)=>x=.exit 0|(.inr r)=>x=.ret∧eW .clean tab none [.tmp 2] ⟨t,H,e⟩=some (.clean (.bool r),none)) ho18 ?_ ?_ ?_
  ·refine⟨0,?_,?_,?_⟩
   all_goals first|rfl|(simp only[bf,seval,-Int.reduceToNat]<;>rfl)
  ·rintro s3a t H e ⟨v1a,Za⟩ c hh
   simp only[lB]at hh
   try simp only[bf,seval,-Int.reduceToNat,Za]
   refine sp aj hh (fun _ hh =>?_) (fun _ hh =>?_)
   ·obtain⟨x20,hx20,hh⟩:=ae hh
    have ax20:=bF al hx20
    simp only[b6]at ax20
    obtain⟨r21,hr21,hh⟩:=ae hh
    try simp only[bf,seval,-Int.reduceToNat,Za,ax20,hr21]
    refine sp aj hh (fun _ hh =>?_) (fun _ hh =>?_)
    ·cases hh
     try simp only[bf,seval,-Int.reduceToNat,Za,ax20,hr21]
     refine gA ?_
     refine⟨v1a,?_,?_,?_⟩
     all_goals first|rfl|(simp only[bf,seval,-Int.reduceToNat,Za,ax20,hr21]<;>rfl)
    ·try simp only[bf,seval,-Int.reduceToNat,Za,ax20,hr21]
     obtain⟨o23,ho23,hh⟩:=ae hh
     refine bA 0 (fun s t H e=>match s with|s43j3=>∃v1j3:Nat,∃v4j3:Nat,t 1=.ptr 1 v1j3 0∧t 3=.int .i64 s3a∧t 4=.ptr 4 v4j3 0∧t 43=.bool s43j3∧H 1=some ⟨v1j3,24,[.sl false false p0.ag.length (ab al p0.ag)],false,false,false⟩∧H 4=some ⟨v4j3,87,[.str x20.cp,.int .i64 x20.aE,.int .i64 x20.aY,.int .i64 x20.bT,.int .i64 x20.bJ],false,false,false⟩) (fun s=>s=o23) ?_ ?_
     ·rintro s43j3 t H e ⟨v1j3,v4j3,Zj3⟩ rfl
      try dsimp only at hh
      try simp only[bf,seval,-Int.reduceToNat,ax20,hr21,Zj3]
      refine sp aj hh (fun _ hh =>?_) (fun _ hh =>?_)
      ·cases hh
       try simp only[bf,seval,-Int.reduceToNat,ax20,hr21,Zj3]
       refine pc ⟨rfl,?_⟩
       try simp only[bf,seval,-Int.reduceToNat,ax20,hr21,Zj3]
      ·obtain⟨x25,hx25,hh⟩:=ae hh
       have ax25:=bF al hx25
       simp only[b6]at ax25
       obtain⟨x26,hx26,hh⟩:=ae hh
       have ax26:=bF al hx26
       simp only[b6]at ax26
       try simp only[bf,seval,-Int.reduceToNat,ax20,hr21,Zj3,ax25,ax26]
       refine sp aB hh (fun _ hh =>?_) (fun _ hh =>?_)
       ·cases hh
        try simp only[bf,seval,-Int.reduceToNat,ax20,hr21,Zj3,ax25,ax26]
        refine pc ⟨rfl,?_⟩
        try simp only[bf,seval,-Int.reduceToNat,ax20,hr21,Zj3,ax25,ax26]
       ·try simp only[bf,seval,-Int.reduceToNat,ax20,hr21,Zj3,ax25,ax26]
        refine sp aB hh (fun _ hh =>?_) (fun _ hh =>?_)
        ·cases hh
         try simp only[bf,seval,-Int.reduceToNat,ax20,hr21,Zj3,ax25,ax26]
         refine pc ⟨rfl,?_⟩
         try simp only[bf,seval,-Int.reduceToNat,ax20,hr21,Zj3,ax25,ax26]
        ·try simp only[bf,seval,-Int.reduceToNat,ax20,hr21,Zj3,ax25,ax26]
         refine sp aB hh (fun _ hh =>?_) (fun _ hh =>?_)
         ·cases hh
          try simp only[bf,seval,-Int.reduceToNat,ax20,hr21,Zj3,ax25,ax26]
          refine pc ⟨rfl,?_⟩
          try simp only[bf,seval,-Int.reduceToNat,ax20,hr21,Zj3,ax25,ax26]
         ·try simp only[bf,seval,-Int.reduceToNat,ax20,hr21,Zj3,ax25,ax26]
          refine sp aj hh (fun _ hh =>?_) (fun _ hh =>?_)
          ·cases hh
           try simp only[bf,seval,-Int.reduceToNat,ax20,hr21,Zj3,ax25,ax26]
           refine pc ⟨rfl,?_⟩
           try simp only[bf,seval,-Int.reduceToNat,ax20,hr21,Zj3,ax25,ax26]
          ·cases hh
           try simp only[bf,seval,-Int.reduceToNat,ax20,hr21,Zj3,ax25,ax26]
           refine gA ?_
           refine⟨v1j3,?_,?_,?_⟩
           all_goals first|rfl|(simp only[bf,seval,-Int.reduceToNat,ax20,hr21,Zj3,ax25,ax26]<;>rfl)
     ·clear hh
      have hh:=ho23
      try simp only[bf,seval,-Int.reduceToNat,Za,ax20,hr21]
      refine sp aB hh (fun _ hh =>?_) (fun _ hh =>?_)
      ·cases hh
       try simp only[bf,seval,-Int.reduceToNat,Za,ax20,hr21]
       rw[ak]
       refine⟨_,rfl,?_⟩
       refine⟨v1a,e+1,?_,?_,?_,?_,?_,?_⟩
       all_goals first|rfl|(simp only[bf,seval,-Int.reduceToNat,Za,ax20,hr21]<;>rfl)
      ·obtain⟨r32,hr32,hh⟩:=ae hh
       try simp only[bf,seval,-Int.reduceToNat,Za,ax20,hr21,hr32]
       refine sp aB hh (fun _ hh =>?_) (fun _ hh =>?_)
       ·cases hh
        try simp only[bf,seval,-Int.reduceToNat,Za,ax20,hr21,hr32]
        rw[ak]
        refine⟨_,rfl,?_⟩
        refine⟨v1a,e+1,?_,?_,?_,?_,?_,?_⟩
        all_goals first|rfl|(simp only[bf,seval,-Int.reduceToNat,Za,ax20,hr21,hr32]<;>rfl)
       ·obtain⟨r34,hr34,hh⟩:=ae hh
        cases hh
        try simp only[bf,seval,-Int.reduceToNat,Za,ax20,hr21,hr32,hr34]
        rw[ak]
        refine⟨_,rfl,?_⟩
        refine⟨v1a,e+1,?_,?_,?_,?_,?_,?_⟩
        all_goals first|rfl|(simp only[bf,seval,-Int.reduceToNat,Za,ax20,hr21,hr32,hr34]<;>rfl)
   ·cases hh
    try simp only[bf,seval,-Int.reduceToNat,Za]
    refine iS ?_
    exact rfl
  ·rintro x t H e hx
   rcases o18 with _|ra
   ·dsimp only at hx hh
    subst hx
    cases hh
    try simp only[bf,seval,-Int.reduceToNat]
   ·dsimp only at hx hh
    obtain⟨rfl,hE⟩:=hx
    cases hh
    try simp only[aO,aG,aW,bX,bW]
    exact hE
theorem sO:bE Tryz.prog 44 mN:=bE.of (mode := .clean) tok I9 mixed Tryz.func44 (by kernel_rfl) ⟨by kernel_rfl,by kernel_rfl⟩ (fun _=>Nat.le_of_ble_eq_true (by kernel_rfl)) (fun x r h=>My x r h)
noncomputable def xr:=dI (cH (cI fM) (dn (cI fM))) (fun x:aw×aw=>nc x.1 x.2) (fun r:Bool =>.clean (.bool r))
theorem EF (p0_0:Int) (p0_1:(List Int)) (p1_0:Int) (p1_1:(List Int)):xr none [.agg [.int .i64 p0_0,.sl false false p0_1.length (ab (eI .i64) p0_1)],.agg [.int .i64 p1_0,.sl false false p1_1.length (ab (eI .i64) p1_1)]]=(nc (aw.mk p0_0 p0_1) (aw.mk p1_0 p1_1)).map fun r:Bool=>(.clean (.bool r),none):=aC _ _ _ ((aw.mk p0_0 p0_1),(aw.mk p1_0 p1_1))
theorem O3 (p0:aw) (p1:aw) (r:Bool) (hh:nc p0 p1=some r):aM .clean tab aU FU Tryz.f152 none [.agg [.int .i64 p0.ah,.sl false false p0.aa.length (ab (eI .i64) p0.aa)],.agg [.int .i64 p1.ah,.sl false false p1.aa.length (ab (eI .i64) p1.aa)]]=some (.clean (.bool r),none):=by
 refine aq rfl Tryz.ntmps152 Tryz.results152 ?_
 unfold nc at hh
 try simp only[w,seval,-Int.reduceToNat]
 obtain⟨o1,ho1,hh⟩:=ae hh
 refine bA 0 (fun s t H e=>match s with|s19j1=>∃v2j1:Nat,∃v3j1:Nat,t 2=.ptr 2 v2j1 0∧t 3=.ptr 3 v3j1 0∧t 19=.bool s19j1∧H 2=some ⟨v2j1,49,[.int .i64 p0.ah,.sl false false p0.aa.length (ab (eI .i64) p0.aa)],false,false,false⟩∧H 3=some ⟨v3j1,49,[.int .i64 p1.ah,.sl false false p1.aa.length (ab (eI .i64) p1.aa)],false,false,false⟩) (fun s=>s=o1) ?_ ?_
 ·rintro s19j1 t H e ⟨v2j1,v3j1,Zj1⟩ rfl
  try dsimp only at hh
  try simp only[w,seval,-Int.reduceToNat,Zj1]
  refine sp aj hh (fun _ hh =>?_) (fun _ hh =>?_)
  ·cases hh
   try simp only[w,seval,-Int.reduceToNat,Zj1]
  ·try simp only[w,seval,-Int.reduceToNat,Zj1]
   obtain⟨o7,ho7,hh⟩:=ae hh
   refine ax (fun s t H e=>match s with|s5b=>∃v2b:Nat,∃v3b:Nat,t 2=.ptr 2 v2b 0∧t 3=.ptr 3 v3b 0∧t 5=.int .i64 s5b∧H 2=some ⟨v2b,49,[.int .i64 p0.ah,.sl false false p0.aa.length (ab (eI .i64) p0.aa)],false,false,false⟩∧H 3=some ⟨v3b,49,[.int .i64 p1.ah,.sl false false p1.aa.length (ab (eI .i64) p1.aa)],false,false,false⟩) (fun o x t H e=>match o with|(.inl _)=>x=.exit 0|(.inr r)=>x=.ret∧eW .clean tab none [.tmp 4] ⟨t,H,e⟩=some (.clean (.bool r),none)) ho7 ?_ ?_ ?_
   ·refine⟨v2j1,v3j1,?_,?_,?_,?_,?_⟩
    all_goals first|rfl|(simp only[w,seval,-Int.reduceToNat,Zj1]<;>rfl)
   ·rintro s5b t H e ⟨v2b,v3b,Zb⟩ c hh
    simp only[qE]at hh
    try simp only[w,seval,-Int.reduceToNat,Zb]
    refine sp aj hh (fun _ hh =>?_) (fun _ hh =>?_)
    ·obtain⟨x9,hx9,hh⟩:=ae hh
     have ax9:=bF (eI .i64) hx9
     simp only[b6]at ax9
     obtain⟨x10,hx10,hh⟩:=ae hh
     have ax10:=bF (eI .i64) hx10
     simp only[b6]at ax10
     try simp only[w,seval,-Int.reduceToNat,Zb,ax9,ax10]
     refine cf (by kernel_rfl) ?_
     try simp only[w,seval,-Int.reduceToNat,Zb,ax9,ax10]
     refine sp aj hh (fun _ hh =>?_) (fun _ hh =>?_)
     ·cases hh
      try simp only[w,seval,-Int.reduceToNat,Zb,ax9,ax10]
      refine pc ⟨rfl,?_⟩
      try simp only[w,seval,-Int.reduceToNat,Zb,ax9,ax10]
     ·cases hh
      try simp only[w,seval,-Int.reduceToNat,Zb,ax9,ax10]
      refine gA ?_
      refine⟨v2b,v3b,?_,?_,?_,?_,?_⟩
      all_goals first|rfl|(simp only[w,seval,-Int.reduceToNat,Zb,ax9,ax10]<;>rfl)
    ·cases hh
     try simp only[w,seval,-Int.reduceToNat,Zb]
     refine iS ?_
     exact rfl
   ·rintro x t H e hx
    rcases o7 with _|rb
    ·dsimp only at hx hh
     subst hx
     cases hh
     try simp only[w,seval,-Int.reduceToNat]
    ·dsimp only at hx hh
     obtain⟨rfl,hE⟩:=hx
     cases hh
     try simp only[aO,aG,aW,bX,bW]
     exact hE
 ·clear hh
  have hh:=ho1
  try simp only[w,seval,-Int.reduceToNat]
  refine sp aB hh (fun _ hh =>?_) (fun _ hh =>?_)
  ·cases hh
   try simp only[w,seval,-Int.reduceToNat]
   rw[ak]
   refine⟨_,rfl,?_⟩
   refine⟨0,0,?_,?_,?_,?_,?_⟩
   all_goals first|rfl|(simp only[w,seval,-Int.reduceToNat]<;>rfl)
  ·cases hh
   try simp only[w,seval,-Int.reduceToNat]
   rw[ak]
   refine⟨_,rfl,?_⟩
   refine⟨0,0,?_,?_,?_,?_,?_⟩
   all_goals first|rfl|(simp only[w,seval,-Int.reduceToNat]<;>rfl)
theorem M8:bE Tryz.prog 152 xr:=bE.of (mode := .clean) tok bK.none mixed Tryz.func152 (by kernel_rfl) ⟨by kernel_rfl,by kernel_rfl⟩ (fun _=>Nat.le_of_ble_eq_true (by kernel_rfl)) (fun x r h=>O3 x.1 x.2 r h)
noncomputable def ml:=dI (cH (cI fM) (dn (cI fM))) (fun x:aw×aw=>gj x.1 x.2) (fun r:Int =>.clean (.int .i64 r))
theorem mH (p0_0:Int) (p0_1:(List Int)) (p1_0:Int) (p1_1:(List Int)):ml none [.agg [.int .i64 p0_0,.sl false false p0_1.length (ab (eI .i64) p0_1)],.agg [.int .i64 p1_0,.sl false false p1_1.length (ab (eI .i64) p1_1)]]=(gj (aw.mk p0_0 p0_1) (aw.mk p1_0 p1_1)).map fun r:Int=>(.clean (.int .i64 r),none):=aC _ _ _ ((aw.mk p0_0 p0_1),(aw.mk p1_0 p1_1))
noncomputable def mA:Env:=(Am.ext (Am.ext (Am.ext aU 111 false fU) 152 false xr) 153 false rL)
theorem DT:bK Tryz.prog mA:=(((bK.none.add ir false).add M8 false).add Bi false)
theorem bY:type_of% (ai @w<|ai @dG<|ai @EF<|ai @sQ<|@mA.eq_1):=⟨@w,@dG,@EF,@sQ,@mA.eq_1⟩
theorem FQ (p0:aw) (p1:aw) (r:Int) (hh:gj p0 p1=some r):aM .clean tab mA FU Tryz.f113 none [.agg [.int .i64 p0.ah,.sl false false p0.aa.length (ab (eI .i64) p0.aa)],.agg [.int .i64 p1.ah,.sl false false p1.aa.length (ab (eI .i64) p1.aa)]]=some (.clean (.int .i64 r),none):=by
 refine aq rfl Tryz.ntmps113 Tryz.results113 ?_
 unfold gj at hh
 obtain⟨r1,hr1,hh⟩:=ae hh
 try simp only[bY,seval,-Int.reduceToNat,hr1]
 obtain⟨o2,ho2,hh⟩:=ae hh
 refine bA 0 (fun s t H e=>match s with|s17j1=>∃v2j1:Nat,∃v3j1:Nat,t 2=.ptr 2 v2j1 0∧t 3=.ptr 3 v3j1 0∧t 17=.bool s17j1∧H 2=some ⟨v2j1,49,[.int .i64 p0.ah,.sl false false p0.aa.length (ab (eI .i64) p0.aa)],false,false,false⟩∧H 3=some ⟨v3j1,49,[.int .i64 p1.ah,.sl false false p1.aa.length (ab (eI .i64) p1.aa)],false,false,false⟩) (fun s=>s=o2) ?_ ?_
 ·rintro s17j1 t H e ⟨v2j1,v3j1,Zj1⟩ rfl
  try dsimp only at hh
  try simp only[bY,seval,-Int.reduceToNat,hr1,Zj1]
  refine sp aj hh (fun _ hh =>?_) (fun _ hh =>?_)
  ·cases hh
   try simp only[bY,seval,-Int.reduceToNat,hr1,Zj1]
  ·try simp only[bY,seval,-Int.reduceToNat,hr1,Zj1]
   refine sp aj hh (fun _ hh =>?_) (fun _ hh =>?_)
   ·try simp only[bY,seval,-Int.reduceToNat,hr1,Zj1]
    refine sp aj hh (fun _ hh =>?_) (fun _ hh =>?_)
    ·cases hh
     try simp only[bY,seval,-Int.reduceToNat,hr1,Zj1]
    ·cases hh
     try simp only[bY,seval,-Int.reduceToNat,hr1,Zj1]
   ·obtain⟨r6,hr6,hh⟩:=ae hh
    try simp only[bY,seval,-Int.reduceToNat,hr1,Zj1,hr6]
    refine cf (by kernel_rfl) ?_
    try simp only[bY,seval,-Int.reduceToNat,hr1,Zj1,hr6]
    refine sp aj hh (fun _ hh =>?_) (fun _ hh =>?_)
    ·cases hh
     try simp only[bY,seval,-Int.reduceToNat,hr1,Zj1,hr6]
    ·cases hh
     try simp only[bY,seval,-Int.reduceToNat,hr1,Zj1,hr6]
 ·clear hh
  have hh:=ho2
  try simp only[bY,seval,-Int.reduceToNat,hr1]
  refine sp aB hh (fun _ hh =>?_) (fun _ hh =>?_)
  ·cases hh
   try simp only[bY,seval,-Int.reduceToNat,hr1]
   rw[ak]
   refine⟨_,rfl,?_⟩
   refine⟨0,0,?_,?_,?_,?_,?_⟩
   all_goals first|rfl|(simp only[bY,seval,-Int.reduceToNat,hr1]<;>rfl)
  ·obtain⟨r9,hr9,hh⟩:=ae hh
   try simp only[bY,seval,-Int.reduceToNat,hr1,hr9]
   refine sp aB hh (fun _ hh =>?_) (fun _ hh =>?_)
   ·cases hh
    try simp only[bY,seval,-Int.reduceToNat,hr1,hr9]
    rw[ak]
    refine⟨_,rfl,?_⟩
    refine⟨0,0,?_,?_,?_,?_,?_⟩
    all_goals first|rfl|(simp only[bY,seval,-Int.reduceToNat,hr1,hr9]<;>rfl)
   ·obtain⟨r11,hr11,hh⟩:=ae hh
    cases hh
    try simp only[bY,seval,-Int.reduceToNat,hr1,hr9,hr11]
    rw[ak]
    refine⟨_,rfl,?_⟩
    refine⟨0,0,?_,?_,?_,?_,?_⟩
    all_goals first|rfl|(simp only[bY,seval,-Int.reduceToNat,hr1,hr9,hr11]<;>rfl)
theorem vb:bE Tryz.prog 113 ml:=bE.of (mode := .clean) tok DT mixed Tryz.func113 (by kernel_rfl) ⟨by kernel_rfl,by kernel_rfl⟩ (fun _=>Nat.le_of_ble_eq_true (by kernel_rfl)) (fun x r h=>FQ x.1 x.2 r h)
noncomputable def mM:=dI (dn (cI jd)) (fun x:aQ=>gP x) (fun r:Bool =>.clean (.bool r))
theorem ky (p0_0:Int) (p0_1:(List Int)) (p0_2:Int) (p0_3:(List Int)):mM none [.agg [.int .i64 p0_0,.sl false false p0_1.length (ab (eI .i64) p0_1),.int .i64 p0_2,.sl false false p0_3.length (ab (eI .i64) p0_3)]]=(gP (aQ.mk (aw.mk p0_0 p0_1) (aw.mk p0_2 p0_3))).map fun r:Bool=>(.clean (.bool r),none):=aC _ _ _ ((aQ.mk (aw.mk p0_0 p0_1) (aw.mk p0_2 p0_3)))
noncomputable def pW:Env:=(Am.ext (Am.ext (Am.ext (Am.ext aU 103 false yb) 111 false fU) 112 false vt) 113 false ml)
theorem I6:bK Tryz.prog pW:=((((bK.none.add HK false).add ir false).add Eo false).add vb false)
theorem ee:type_of% (ai @w<|ai @zg<|ai @dG<|ai @v8<|ai @mH<|@pW.eq_1):=⟨@w,@zg,@dG,@v8,@mH,@pW.eq_1⟩
theorem Mu (p0:aQ) (r:Bool) (hh:gP p0=some r):aM .clean tab pW FU Tryz.f78 none [.agg [.int .i64 p0.cn.ah,.sl false false p0.cn.aa.length (ab (eI .i64) p0.cn.aa),.int .i64 p0.cl.ah,.sl false false p0.cl.aa.length (ab (eI .i64) p0.cl.aa)]]=some (.clean (.bool r),none):=by
 refine aq rfl Tryz.ntmps78 Tryz.results78 ?_
 unfold gP at hh
 obtain⟨r1,hr1,hh⟩:=ae hh
 try simp only[ee,seval,-Int.reduceToNat,hr1]
 obtain⟨o2,ho2,hh⟩:=ae hh
 refine bA 0 (fun s t H e=>match s with|s20j1=>∃v1j1:Nat,t 1=.ptr 1 v1j1 0∧t 20=.bool s20j1∧H 1=some ⟨v1j1,51,[.int .i64 p0.cn.ah,.sl false false p0.cn.aa.length (ab (eI .i64) p0.cn.aa),.int .i64 p0.cl.ah,.sl false false p0.cl.aa.length (ab (eI .i64) p0.cl.aa)],false,false,false⟩) (fun s=>s=o2) ?_ ?_
 ·rintro s20j1 t H e ⟨v1j1,Zj1⟩ rfl
  try dsimp only at hh
  try simp only[ee,seval,-Int.reduceToNat,hr1,Zj1]
  refine sp aj hh (fun _ hh =>?_) (fun _ hh =>?_)
  ·cases hh
   try simp only[ee,seval,-Int.reduceToNat,hr1,Zj1]
  ·obtain⟨r4,hr4,hh⟩:=ae hh
   obtain⟨r5,hr5,hh⟩:=ae hh
   obtain⟨r6,hr6,hh⟩:=ae hh
   try simp only[ee,seval,-Int.reduceToNat,hr1,Zj1,hr4,hr5,hr6]
   refine cf (by kernel_rfl) ?_
   cases hh
   try simp only[ee,seval,-Int.reduceToNat,hr1,Zj1,hr4,hr5,hr6]
 ·clear hh
  have hh:=ho2
  try simp only[ee,seval,-Int.reduceToNat,hr1]
  refine sp aB hh (fun _ hh =>?_) (fun _ hh =>?_)
  ·cases hh
   try simp only[ee,seval,-Int.reduceToNat,hr1]
   rw[ak]
   refine⟨_,rfl,?_⟩
   refine⟨0,?_,?_,?_⟩
   all_goals first|rfl|(simp only[ee,seval,-Int.reduceToNat,hr1]<;>rfl)
  ·obtain⟨r8,hr8,hh⟩:=ae hh
   try simp only[ee,seval,-Int.reduceToNat,hr1,hr8]
   refine sp aB hh (fun _ hh =>?_) (fun _ hh =>?_)
   ·cases hh
    try simp only[ee,seval,-Int.reduceToNat,hr1,hr8]
    rw[ak]
    refine⟨_,rfl,?_⟩
    refine⟨0,?_,?_,?_⟩
    all_goals first|rfl|(simp only[ee,seval,-Int.reduceToNat,hr1,hr8]<;>rfl)
   ·cases hh
    try simp only[ee,seval,-Int.reduceToNat,hr1,hr8]
    rw[ak]
    refine⟨_,rfl,?_⟩
    refine⟨0,?_,?_,?_⟩
    all_goals first|rfl|(simp only[ee,seval,-Int.reduceToNat,hr1,hr8]<;>rfl)
theorem sN:bE Tryz.prog 78 mM:=bE.of (mode := .clean) tok I6 mixed Tryz.func78 (by kernel_rfl) ⟨by kernel_rfl,by kernel_rfl⟩ (fun _=>Nat.le_of_ble_eq_true (by kernel_rfl)) (fun x r h=>Mu x r h)
noncomputable def zK:=dI (cH (cI fM) (dn (cI fM))) (fun x:aw×aw=>mL x.1 x.2) (fun r:aw×Int =>.clean (.tup [.agg [.int .i64 r.1.ah,.sl false false r.1.aa.length (ab (eI .i64) r.1.aa)],.int .i64 r.2]))
theorem HX (p0_0:Int) (p0_1:(List Int)) (p1_0:Int) (p1_1:(List Int)):zK none [.agg [.int .i64 p0_0,.sl false false p0_1.length (ab (eI .i64) p0_1)],.agg [.int .i64 p1_0,.sl false false p1_1.length (ab (eI .i64) p1_1)]]=(mL (aw.mk p0_0 p0_1) (aw.mk p1_0 p1_1)).map fun r:aw×Int=>(.clean (.tup [.agg [.int .i64 r.1.ah,.sl false false r.1.aa.length (ab (eI .i64) r.1.aa)],.int .i64 r.2]),none):=aC _ _ _ ((aw.mk p0_0 p0_1),(aw.mk p1_0 p1_1))
noncomputable def vP:Env:=(Am.ext (Am.ext (Am.ext aU 111 false fU) 133 false j6) 154 false pI)
theorem OK:bK Tryz.prog vP:=(((bK.none.add ir false).add mV false).add y6 false)
theorem iQ:type_of% (ai @w<|ai @dG<|ai @gB<|ai @mY<|@vP.eq_1):=⟨@w,@dG,@gB,@mY,@vP.eq_1⟩
theorem SV (p0:aw) (p1:aw) (r:aw×Int) (hh:mL p0 p1=some r):aM .clean tab vP FU Tryz.f114 none [.agg [.int .i64 p0.ah,.sl false false p0.aa.length (ab (eI .i64) p0.aa)],.agg [.int .i64 p1.ah,.sl false false p1.aa.length (ab (eI .i64) p1.aa)]]=some (.clean (.tup [.agg [.int .i64 r.1.ah,.sl false false r.1.aa.length (ab (eI .i64) r.1.aa)],.int .i64 r.2]),none):=by
 refine aq rfl Tryz.ntmps114 Tryz.results114 ?_
 unfold mL at hh
 obtain⟨r1,hr1,hh⟩:=ae hh
 try simp only[iQ,seval,-Int.reduceToNat,hr1]
 obtain⟨o2,ho2,hh⟩:=ae hh
 refine bA 0 (fun s t H e=>match s with|s13j1=>∃v2j1:Nat,∃v3j1:Nat,∃v4j1:Nat,t 2=.ptr 2 v2j1 0∧t 3=.ptr 3 v3j1 0∧t 4=.ptr 4 v4j1 0∧t 13=.bool s13j1∧H 2=some ⟨v2j1,49,[.int .i64 p0.ah,.sl false false p0.aa.length (ab (eI .i64) p0.aa)],false,false,false⟩∧H 3=some ⟨v3j1,49,[.int .i64 p1.ah,.sl false false p1.aa.length (ab (eI .i64) p1.aa)],false,false,false⟩∧H 4=some ⟨v4j1,49,[.int .i64 0,.sl true true 0 []],false,false,false⟩) (fun s=>s=o2) ?_ ?_
 ·rintro s13j1 t H e ⟨v2j1,v3j1,v4j1,Zj1⟩ rfl
  try dsimp only at hh
  try simp only[iQ,seval,-Int.reduceToNat,hr1,Zj1]
  refine sp aj hh (fun _ hh =>?_) (fun _ hh =>?_)
  ·cases hh
   try simp only[iQ,seval,-Int.reduceToNat,hr1,Zj1]
  ·obtain⟨r4,hr4,hh⟩:=ae hh
   obtain⟨r5,hr5,hh⟩:=ae hh
   try simp only[iQ,seval,-Int.reduceToNat,hr1,Zj1,hr4,hr5]
   refine cf (by kernel_rfl) ?_
   cases hh
   try simp only[iQ,seval,-Int.reduceToNat,hr1,Zj1,hr4,hr5]
 ·clear hh
  have hh:=ho2
  try simp only[iQ,seval,-Int.reduceToNat,hr1]
  refine sp aB hh (fun _ hh =>?_) (fun _ hh =>?_)
  ·cases hh
   try simp only[iQ,seval,-Int.reduceToNat,hr1]
   rw[ak]
   refine⟨_,rfl,?_⟩
   refine⟨0,0,0,?_,?_,?_,?_,?_,?_,?_⟩
   all_goals first|rfl|(simp only[iQ,seval,-Int.reduceToNat,hr1]<;>rfl)
  ·obtain⟨r7,hr7,hh⟩:=ae hh
   cases hh
   try simp only[iQ,seval,-Int.reduceToNat,hr1,hr7]
   rw[ak]
   refine⟨_,rfl,?_⟩
   refine⟨0,0,0,?_,?_,?_,?_,?_,?_,?_⟩
   all_goals first|rfl|(simp only[iQ,seval,-Int.reduceToNat,hr1,hr7]<;>rfl)
theorem Ps:bE Tryz.prog 114 zK:=bE.of (mode := .clean) tok OK mixed Tryz.func114 (by kernel_rfl) ⟨by kernel_rfl,by kernel_rfl⟩ (fun _=>Nat.le_of_ble_eq_true (by kernel_rfl)) (fun x r h=>SV x.1 x.2 r h)
noncomputable def mm:=dI (cH (cI jd) (dn (cI jd))) (fun x:aQ×aQ=>gn x.1 x.2) (fun r:Int =>.clean (.int .i64 r))
theorem mI (p0_0:Int) (p0_1:(List Int)) (p0_2:Int) (p0_3:(List Int)) (p1_0:Int) (p1_1:(List Int)) (p1_2:Int) (p1_3:(List Int)):mm none [.agg [.int .i64 p0_0,.sl false false p0_1.length (ab (eI .i64) p0_1),.int .i64 p0_2,.sl false false p0_3.length (ab (eI .i64) p0_3)],.agg [.int .i64 p1_0,.sl false false p1_1.length (ab (eI .i64) p1_1),.int .i64 p1_2,.sl false false p1_3.length (ab (eI .i64) p1_3)]]=(gn (aQ.mk (aw.mk p0_0 p0_1) (aw.mk p0_2 p0_3)) (aQ.mk (aw.mk p1_0 p1_1) (aw.mk p1_2 p1_3))).map fun r:Int=>(.clean (.int .i64 r),none):=aC _ _ _ ((aQ.mk (aw.mk p0_0 p0_1) (aw.mk p0_2 p0_3)),(aQ.mk (aw.mk p1_0 p1_1) (aw.mk p1_2 p1_3)))
noncomputable def mB:Env:=(Am.ext (Am.ext (Am.ext aU 78 false mM) 113 false ml) 114 false zK)
theorem DU:bK Tryz.prog mB:=(((bK.none.add sN false).add vb false).add Ps false)
theorem eT:type_of% (ai @w<|ai @ky<|ai @mH<|ai @HX<|@mB.eq_1):=⟨@w,@ky,@mH,@HX,@mB.eq_1⟩
theorem FR (p0:aQ) (p1:aQ) (r:Int) (hh:gn p0 p1=some r):aM .clean tab mB FU Tryz.f79 none [.agg [.int .i64 p0.cn.ah,.sl false false p0.cn.aa.length (ab (eI .i64) p0.cn.aa),.int .i64 p0.cl.ah,.sl false false p0.cl.aa.length (ab (eI .i64) p0.cl.aa)],.agg [.int .i64 p1.cn.ah,.sl false false p1.cn.aa.length (ab (eI .i64) p1.cn.aa),.int .i64 p1.cl.ah,.sl false false p1.cl.aa.length (ab (eI .i64) p1.cl.aa)]]=some (.clean (.int .i64 r),none):=by
 refine aq rfl Tryz.ntmps79 Tryz.results79 ?_
 unfold gn at hh
 obtain⟨r1,hr1,hh⟩:=ae hh
 try simp only[eT,seval,-Int.reduceToNat,hr1]
 obtain⟨o2,ho2,hh⟩:=ae hh
 refine bA 0 (fun s t H e=>match s with|s16j1=>∃v2j1:Nat,∃v3j1:Nat,t 2=.ptr 2 v2j1 0∧t 3=.ptr 3 v3j1 0∧t 16=.bool s16j1∧H 2=some ⟨v2j1,51,[.int .i64 p0.cn.ah,.sl false false p0.cn.aa.length (ab (eI .i64) p0.cn.aa),.int .i64 p0.cl.ah,.sl false false p0.cl.aa.length (ab (eI .i64) p0.cl.aa)],false,false,false⟩∧H 3=some ⟨v3j1,51,[.int .i64 p1.cn.ah,.sl false false p1.cn.aa.length (ab (eI .i64) p1.cn.aa),.int .i64 p1.cl.ah,.sl false false p1.cl.aa.length (ab (eI .i64) p1.cl.aa)],false,false,false⟩) (fun s=>s=o2) ?_ ?_
 ·rintro s16j1 t H e ⟨v2j1,v3j1,Zj1⟩ rfl
  try dsimp only at hh
  try simp only[eT,seval,-Int.reduceToNat,hr1,Zj1]
  refine sp aj hh (fun _ hh =>?_) (fun _ hh =>?_)
  ·cases hh
   try simp only[eT,seval,-Int.reduceToNat,hr1,Zj1]
  ·obtain⟨r4,hr4,hh⟩:=ae hh
   obtain⟨r5,hr5,hh⟩:=ae hh
   obtain⟨r6,hr6,hh⟩:=ae hh
   cases hh
   try simp only[eT,seval,-Int.reduceToNat,hr1,Zj1,hr4,hr5,hr6]
 ·clear hh
  have hh:=ho2
  try simp only[eT,seval,-Int.reduceToNat,hr1]
  refine sp aB hh (fun _ hh =>?_) (fun _ hh =>?_)
  ·cases hh
   try simp only[eT,seval,-Int.reduceToNat,hr1]
   rw[ak]
   refine⟨_,rfl,?_⟩
   refine⟨0,0,?_,?_,?_,?_,?_⟩
   all_goals first|rfl|(simp only[eT,seval,-Int.reduceToNat,hr1]<;>rfl)
  ·obtain⟨r8,hr8,hh⟩:=ae hh
   cases hh
   try simp only[eT,seval,-Int.reduceToNat,hr1,hr8]
   rw[ak]
   refine⟨_,rfl,?_⟩
   refine⟨0,0,?_,?_,?_,?_,?_⟩
   all_goals first|rfl|(simp only[eT,seval,-Int.reduceToNat,hr1,hr8]<;>rfl)
theorem vc:bE Tryz.prog 79 mm:=bE.of (mode := .clean) tok DU mixed Tryz.func79 (by kernel_rfl) ⟨by kernel_rfl,by kernel_rfl⟩ (fun _=>Nat.le_of_ble_eq_true (by kernel_rfl)) (fun x r h=>FR x.1 x.2 r h)
noncomputable def pJ:=dI (dn (cI sk)) (fun x:dt=>jw x) (fun r:Bool =>.clean (.bool r))
theorem qy (p0_0:Int) (p0_1:(List Int)) (p0_2:Int) (p0_3:(List Int)) (p0_4:Int) (p0_5:(List Int)) (p0_6:Int) (p0_7:(List Int)):pJ none [.agg [.int .i64 p0_0,.sl false false p0_1.length (ab (eI .i64) p0_1),.int .i64 p0_2,.sl false false p0_3.length (ab (eI .i64) p0_3),.int .i64 p0_4,.sl false false p0_5.length (ab (eI .i64) p0_5),.int .i64 p0_6,.sl false false p0_7.length (ab (eI .i64) p0_7)]]=(jw (dt.mk (aQ.mk (aw.mk p0_0 p0_1) (aw.mk p0_2 p0_3)) (aQ.mk (aw.mk p0_4 p0_5) (aw.mk p0_6 p0_7)))).map fun r:Bool=>(.clean (.bool r),none):=aC _ _ _ ((dt.mk (aQ.mk (aw.mk p0_0 p0_1) (aw.mk p0_2 p0_3)) (aQ.mk (aw.mk p0_4 p0_5) (aw.mk p0_6 p0_7))))
noncomputable def pX:Env:=(Am.ext (Am.ext aU 78 false mM) 79 false mm)
theorem I7:bK Tryz.prog pX:=((bK.none.add sN false).add vc false)
theorem nt:type_of% (ai @w<|ai @ky<|ai @mI<|@pX.eq_1):=⟨@w,@ky,@mI,@pX.eq_1⟩
theorem Mv (p0:dt) (r:Bool) (hh:jw p0=some r):aM .clean tab pX FU Tryz.f45 none [.agg [.int .i64 p0.bq.cn.ah,.sl false false p0.bq.cn.aa.length (ab (eI .i64) p0.bq.cn.aa),.int .i64 p0.bq.cl.ah,.sl false false p0.bq.cl.aa.length (ab (eI .i64) p0.bq.cl.aa),.int .i64 p0.aT.cn.ah,.sl false false p0.aT.cn.aa.length (ab (eI .i64) p0.aT.cn.aa),.int .i64 p0.aT.cl.ah,.sl false false p0.aT.cl.aa.length (ab (eI .i64) p0.aT.cl.aa)]]=some (.clean (.bool r),none):=by
 refine aq rfl Tryz.ntmps45 Tryz.results45 ?_
 unfold jw at hh
 obtain⟨r1,hr1,hh⟩:=ae hh
 try simp only[nt,seval,-Int.reduceToNat,hr1]
 refine sp bd hh (fun _ hh =>?_) (fun _ hh =>?_)
 ·obtain⟨r3,hr3,hh⟩:=ae hh
  try simp only[nt,seval,-Int.reduceToNat,hr1,hr3]
  refine sp bd hh (fun _ hh =>?_) (fun _ hh =>?_)
  ·obtain⟨r5,hr5,hh⟩:=ae hh
   cases hh
   try simp only[nt,seval,-Int.reduceToNat,hr1,hr3,hr5]
  ·cases hh
   try simp only[nt,seval,-Int.reduceToNat,hr1,hr3]
 ·cases hh
  try simp only[nt,seval,-Int.reduceToNat,hr1]
theorem y7:bE Tryz.prog 45 pJ:=bE.of (mode := .clean) tok I7 mixed Tryz.func45 (by kernel_rfl) ⟨by kernel_rfl,by kernel_rfl⟩ (fun _=>Nat.le_of_ble_eq_true (by kernel_rfl)) (fun x r h=>Mv x r h)
noncomputable def pN:=dI (dn (eZ (eI .i64))) (fun x:(List Int)=>jx x) (fun r:Bool =>.clean (.bool r))
theorem qC (p0:(List Int)):pN none [.sl false false p0.length (ab (eI .i64) p0)]=(jx p0).map fun r:Bool=>(.clean (.bool r),none):=aC _ _ _ (p0)
theorem ME (p0:(List Int)) (r:Bool) (hh:jx p0=some r):aM .clean tab aU FU Tryz.f22 none [.sl false false p0.length (ab (eI .i64) p0)]=some (.clean (.bool r),none):=by
 refine aq rfl Tryz.ntmps22 Tryz.results22 ?_
 unfold jx at hh
 try simp only[w,seval,-Int.reduceToNat]
 obtain⟨o11,ho11,hh⟩:=ae hh
 refine ax (fun s t H e=>match s with|s3a=>t 0=.sl false false p0.length (ab (eI .i64) p0)∧t 3=.int .i64 s3a) (fun o x t H e=>match o with|(.inl _)=>x=.exit 0|(.inr r)=>x=.ret∧eW .clean tab none [.tmp 2] ⟨t,H,e⟩=some (.clean (.bool r),none)) ho11 ?_ ?_ ?_
 ·refine⟨?_,?_⟩
  all_goals first|rfl|(simp only[w,seval,-Int.reduceToNat]<;>rfl)
 ·rintro s3a t H e Za c hh
  simp only[lE]at hh
  try simp only[w,seval,-Int.reduceToNat,Za]
  refine sp aj hh (fun _ hh =>?_) (fun _ hh =>?_)
  ·try simp only[w,seval,-Int.reduceToNat,Za]
   obtain⟨o17,ho17,hh⟩:=ae hh
   refine ax (fun s t H e=>match s with|s4c=>t 0=.sl false false p0.length (ab (eI .i64) p0)∧t 3=.int .i64 s3a∧t 4=.int .i64 s4c) (fun o x t H e=>match o with|(.inl _)=>x=.exit 2∧t 0=.sl false false p0.length (ab (eI .i64) p0)∧t 3=.int .i64 s3a|(.inr r)=>x=.ret∧eW .clean tab none [.tmp 2] ⟨t,H,e⟩=some (.clean (.bool r),none)) ho17 ?_ ?_ ?_
   ·refine⟨?_,?_,?_⟩
    all_goals first|rfl|(simp only[w,seval,-Int.reduceToNat,Za]<;>rfl)
   ·rintro s4c t H e Zc c hh
    simp only[jy]at hh
    try simp only[w,seval,-Int.reduceToNat,Zc]
    refine sp aj hh (fun _ hh =>?_) (fun _ hh =>?_)
    ·obtain⟨x19,hx19,hh⟩:=ae hh
     have ax19:=bF (eI .i64) hx19
     simp only[b6]at ax19
     obtain⟨x20,hx20,hh⟩:=ae hh
     have ax20:=bF (eI .i64) hx20
     simp only[b6]at ax20
     try simp only[w,seval,-Int.reduceToNat,Zc,ax19,ax20]
     refine cf (by kernel_rfl) ?_
     try simp only[w,seval,-Int.reduceToNat,Zc,ax19,ax20]
     refine sp aj hh (fun _ hh =>?_) (fun _ hh =>?_)
     ·cases hh
      try simp only[w,seval,-Int.reduceToNat,Zc,ax19,ax20]
      refine pc ⟨rfl,?_⟩
      try simp only[w,seval,-Int.reduceToNat,Zc,ax19,ax20]
     ·cases hh
      try simp only[w,seval,-Int.reduceToNat,Zc,ax19,ax20]
      refine gA ?_
      refine⟨?_,?_,?_⟩
      all_goals first|rfl|(simp only[w,seval,-Int.reduceToNat,Zc,ax19,ax20]<;>rfl)
    ·cases hh
     try simp only[w,seval,-Int.reduceToNat,Zc]
     refine iS ?_
     refine⟨rfl,⟨?_,?_⟩⟩
     all_goals first|rfl|(simp only[w,seval,-Int.reduceToNat,Zc]<;>rfl)
   ·rintro x t H e hx
    rcases o17 with _|rc
    ·dsimp only at hx hh
     obtain⟨rfl,Zcx⟩:=hx
     cases hh
     try simp only[w,seval,-Int.reduceToNat,Zcx]
     refine gA ?_
     refine⟨?_,?_⟩
     all_goals first|rfl|(simp only[w,seval,-Int.reduceToNat,Zcx]<;>rfl)
    ·dsimp only at hx hh
     obtain⟨rfl,hE⟩:=hx
     cases hh
     try simp only[aO,aG,aW,bX,bW]
     refine pc ?_
     first|exact⟨rfl,hE⟩|(simp only[w,seval,-Int.reduceToNat]at hE;exact⟨rfl,hE⟩)
  ·cases hh
   try simp only[w,seval,-Int.reduceToNat,Za]
   refine iS ?_
   exact rfl
 ·rintro x t H e hx
  rcases o11 with _|ra
  ·dsimp only at hx hh
   subst hx
   cases hh
   try simp only[w,seval,-Int.reduceToNat]
  ·dsimp only at hx hh
   obtain⟨rfl,hE⟩:=hx
   cases hh
   try simp only[aO,aG,aW,bX,bW]
   exact hE
theorem zb:bE Tryz.prog 22 pN:=bE.of (mode := .clean) tok bK.none mixed Tryz.func22 (by kernel_rfl) ⟨by kernel_rfl,by kernel_rfl⟩ (fun _=>Nat.le_of_ble_eq_true (by kernel_rfl)) (fun x r h=>ME x r h)
noncomputable def Cx:=dI (cH (cI di) (dn (aI .i64))) (fun x:au×Int=>AD x.1 x.2) (fun r:Bool =>.clean (.bool r))
theorem Nq (p0_0:(List av)) (p1:Int):Cx none [.agg [.sl false false p0_0.length (ab al p0_0)],.int .i64 p1]=(AD (au.mk p0_0) p1).map fun r:Bool=>(.clean (.bool r),none):=aC _ _ _ ((au.mk p0_0),p1)
theorem Vh (p0:au) (p1:Int) (r:Bool) (hh:AD p0 p1=some r):aM .clean tab aU FU Tryz.f60 none [.agg [.sl false false p0.ag.length (ab al p0.ag)],.int .i64 p1]=some (.clean (.bool r),none):=by
 refine aq rfl Tryz.ntmps60 Tryz.results60 ?_
 unfold AD at hh
 try simp only[w,seval,-Int.reduceToNat]
 refine sp bd hh (fun _ hh =>?_) (fun _ hh =>?_)
 ·cases hh
  try simp only[w,seval,-Int.reduceToNat]
 ·cases hh
  try simp only[w,seval,-Int.reduceToNat]
theorem Td:bE Tryz.prog 60 Cx:=bE.of (mode := .clean) tok bK.none mixed Tryz.func60 (by kernel_rfl) ⟨by kernel_rfl,by kernel_rfl⟩ (fun _=>Nat.le_of_ble_eq_true (by kernel_rfl)) (fun x r h=>Vh x.1 x.2 r h)
noncomputable def ug:=dI (cH (cI di) (dn (eZ (eI .i64)))) (fun x:au×(List Int)=>l5 x.1 x.2) (fun r:Bool =>.clean (.bool r))
theorem Br (p0_0:(List av)) (p1:(List Int)):ug none [.agg [.sl false false p0_0.length (ab al p0_0)],.sl false false p1.length (ab (eI .i64) p1)]=(l5 (au.mk p0_0) p1).map fun r:Bool=>(.clean (.bool r),none):=aC _ _ _ ((au.mk p0_0),p1)
noncomputable def qe:Env:=(Am.ext (Am.ext aU 44 false mN) 60 false Cx)
theorem Jb:bK Tryz.prog qe:=((bK.none.add sO false).add Td false)
theorem bB:type_of% (ai @w<|ai @kz<|ai @Nq<|@qe.eq_1):=⟨@w,@kz,@Nq,@qe.eq_1⟩
end Go.Proofs.YtpkahnkoecbndaaGreatDoor.Am
